/- What a script's text is read as, in plain Lean: words of a line, commands, numbers, bytes: no program in sight, no conditions. -/
import Derived.Lib.FieldsP
import Derived.Lib.IndexMore
import Derived.Lib.SlTrimSet
import Derived.Lib.Hide
import Derived.Lib.IndexBytes
import Derived.Calls
set_option linter.all false

namespace Go.Proofs.YtkmpbmlcmglmnaaGreatDoor
open Go

/-! ### words of a line -/
def isSep (s : ByteArray) (i : Nat) : Prop := i = s.size ∨ s.data.toList[i]? = some 32
instance (s : ByteArray) (i : Nat) : Decidable (isSep s i) := by unfold isSep; infer_instance
def wordsTo (s : ByteArray) : Nat → List ByteArray × Nat
  | 0 => ([], 0)
  | i + 1 =>
    if isSep s i then
      ((if (wordsTo s i).2 < i then (wordsTo s i).1 ++ [s.extract (wordsTo s i).2 i] else (wordsTo s i).1), i + 1)
    else wordsTo s i
def fields (s : ByteArray) : List ByteArray := (wordsTo s (s.size + 1)).1
theorem wordsTo_word (s : ByteArray) (k : Nat) (h : isSep s k) (h2 : (wordsTo s k).2 < k) : wordsTo s (k + 1) = ((wordsTo s k).1 ++ [s.extract (wordsTo s k).2 k], k + 1) := by
  simp only [wordsTo]; rw [if_pos h, if_pos h2]
theorem wordsTo_none (s : ByteArray) (k : Nat) (h : isSep s k) (h2 : ¬ (wordsTo s k).2 < k) : wordsTo s (k + 1) = ((wordsTo s k).1, k + 1) := by
  simp only [wordsTo]; rw [if_pos h, if_neg h2]
theorem wordsTo_on (s : ByteArray) (k : Nat) (h : ¬ isSep s k) : wordsTo s (k + 1) = wordsTo s k := by
  simp only [wordsTo]; rw [if_neg h]
theorem byte_at (s : ByteArray) (k : Nat) (h : k < s.size) : s.data.toList[k]? = some s[k] := by
  rw [List.getElem?_eq_getElem (by simpa using h)]; rfl
theorem isSep_cases (s : ByteArray) (k : Nat) (hk : k ≤ s.size) : ((((k : Int) == (s.size : Int)) = true) ∧ isSep s k) ∨
    (∃ h : k < s.size, ((k : Int) == (s.size : Int)) = false ∧ (((s[k].toNat : Nat) : Int) == 32) = true ∧ isSep s k) ∨
    (∃ h : k < s.size, ((k : Int) == (s.size : Int)) = false ∧ (((s[k].toNat : Nat) : Int) == 32) = false ∧ ¬ isSep s k) := by
  by_cases h : k = s.size
  · exact .inl ⟨by simp [h], .inl h⟩
  · have hlt : k < s.size := by omega
    have e : ((k : Int) == (s.size : Int)) = false := by rw [beq_eq_false_iff_ne]; omega
    have hb := byte_at s k hlt
    by_cases h2 : s[k] = 32
    · exact .inr (.inl ⟨hlt, e, by simp [h2], .inr (by rw [hb, h2])⟩)
    · refine .inr (.inr ⟨hlt, e, ?_, ?_⟩)
      · rw [beq_eq_false_iff_ne]; intro h3; apply h2; apply UInt8.toNat.inj; show s[k].toNat = 32; omega
      · rintro (h3 | h3)
        · omega
        · rw [hb] at h3; exact h2 (by simpa using h3)
theorem wordsTo_le (s : ByteArray) (k : Nat) : (wordsTo s k).2 ≤ k := by
  induction k with
  | zero => simp [wordsTo]
  | succ k ih =>
    by_cases h : isSep s k
    · by_cases h2 : (wordsTo s k).2 < k
      · rw [wordsTo_word s k h h2]; exact Nat.le_refl _
      · rw [wordsTo_none s k h h2]; exact Nat.le_refl _
    · rw [wordsTo_on s k h]; omega

/-! ### FieldsFunc at ' ' gives the same words -/
theorem get!_at (s : ByteArray) (i : Nat) (h : i < s.size) : s.get! i = s[i] := by
  have h' : i < s.data.size := h
  exact getElem!_pos s.data i h'
/-- what a decoded rune tells of its bytes: it is ' ' just where the first byte is, and no other byte of it is ' '. -/
def DecOk (s : ByteArray) (i b0 : Nat) (d : Nat × Nat) : Prop :=
  (d.1 = 32 ↔ b0 = 32) ∧ 1 ≤ d.2 ∧ i + d.2 ≤ s.size ∧ (b0 = 32 → d.2 = 1) ∧ ∀ j, i < j → j < i + d.2 → (hs : j < s.size) → s[j].toNat ≠ 32
theorem decode_space (s : ByteArray) (i : Nat) (h : i < s.size) : DecOk s i s[i].toNat (Utf8.decode s i) := by
  have h0 := get!_at s i h
  have hc : ∀ k, (decide (i + k < s.size) && (s.get! (i + k)).toNat / 64 == 2) = true → ∃ hk : i + k < s.size, s[i + k].toNat / 64 = 2 := by
    intro k hk
    simp only [Bool.and_eq_true, decide_eq_true_eq, beq_iff_eq] at hk
    exact ⟨hk.1, by rw [← get!_at s _ hk.1]; exact hk.2⟩
  have hne : ∀ k (hk : i + k < s.size), s[i + k].toNat / 64 = 2 → s[i + k].toNat ≠ 32 := by intro k hk h1 h2; rw [h2] at h1; omega
  obtain ⟨b0, hb0⟩ : ∃ b, b = s[i].toNat := ⟨_, rfl⟩
  have h00 : (s.get! (i + 0)).toNat = b0 := by rw [hb0, ← h0]; rfl
  rw [← hb0]
  unfold Utf8.decode
  simp only [h00]
  have stop : ¬ b0 < 128 → DecOk s i b0 (Utf8.runeError, 1) := fun hb =>
    ⟨⟨fun x => by simp only [Utf8.runeError] at x; omega, fun x => absurd x (by omega)⟩, Nat.le_refl _, by simp only; omega, fun _ => rfl, fun j h1 h2 => by simp only at h2; omega⟩
  have many : ∀ c n, ¬ b0 < 128 → 128 ≤ c → 1 ≤ n → i + n ≤ s.size → (∀ k, 1 ≤ k → k < n → ∃ hk : i + k < s.size, s[i + k].toNat / 64 = 2) → DecOk s i b0 (c, n) := fun c n hb hcc hn hs hk =>
    ⟨⟨fun x => by simp only at x; omega, fun x => absurd x (by omega)⟩, hn, hs, fun x => absurd x (by omega), fun j h1 h2 h3 => by
      simp only at h2
      obtain ⟨h4, h5⟩ := hk (j - i) (by omega) (by omega)
      have e : i + (j - i) = j := by omega
      have := hne (j - i) h4 h5
      simpa only [e] using this⟩
  split
  · rename_i hb; exact ⟨Iff.rfl, Nat.le_refl _, by simp only; omega, fun _ => rfl, fun j h1 h2 => by simp only at h2; omega⟩
  · rename_i hb
    split
    · rename_i h2
      simp only [Bool.and_eq_true] at h2
      have k1 := hc 1 (by simpa using h2.2)
      split
      · rename_i hge
        exact many _ 2 hb (by omega) (by omega) (by obtain ⟨x, _⟩ := k1; omega) (fun k a b => by obtain rfl : k = 1 := by omega
                                                                                                 exact k1)
      · exact stop hb
    · split
      · rename_i h2
        simp only [Bool.and_eq_true] at h2
        have k1 := hc 1 (by simpa using h2.1.2)
        have k2 := hc 2 (by simpa using h2.2)
        split
        · rename_i hge
          simp only [Bool.and_eq_true, decide_eq_true_eq] at hge
          refine many _ 3 hb (by omega) (by omega) (by obtain ⟨x, _⟩ := k2; omega) (fun k a b => ?_)
          rcases (by omega : k = 1 ∨ k = 2) with rfl | rfl
          · exact k1
          · exact k2
        · exact stop hb
      · split
        · rename_i h2
          simp only [Bool.and_eq_true] at h2
          have k1 := hc 1 (by simpa using h2.1.1.2)
          have k2 := hc 2 (by simpa using h2.1.2)
          have k3 := hc 3 (by simpa using h2.2)
          split
          · rename_i hge
            simp only [Bool.and_eq_true, decide_eq_true_eq] at hge
            refine many _ 4 hb (by omega) (by omega) (by obtain ⟨x, _⟩ := k3; omega) (fun k a b => ?_)
            rcases (by omega : k = 1 ∨ k = 2 ∨ k = 3) with rfl | rfl | rfl
            · exact k1
            · exact k2
            · exact k3
          · exact stop hb
        · exact stop hb

theorem wordsTo_skip (s : ByteArray) (pos n : Nat) (h : ∀ j, pos ≤ j → j < pos + n → ¬ isSep s j) : wordsTo s (pos + n) = wordsTo s pos := by
  induction n with
  | zero => rfl
  | succ n ih =>
    rw [show pos + (n + 1) = (pos + n) + 1 from rfl, wordsTo_on s _ (h _ (by omega) (by omega))]
    exact ih (fun j h1 h2 => h j h1 (by omega))
def spanEx (s : ByteArray) (acc : List (Nat × Nat)) : List ByteArray := acc.map fun x => s.extract x.1 x.2
def StOk (s : ByteArray) (pos : Nat) : Option Nat → Prop
  | some a => (wordsTo s pos).2 = a ∧ a < pos
  | none => (wordsTo s pos).2 = pos
theorem spans_words (s : ByteArray) : ∀ (f pos : Nat) (st : Option Nat) (acc : List (Nat × Nat)), s.size ≤ pos + f → pos ≤ s.size → (wordsTo s pos).1 = spanEx s acc → StOk s pos st →
    spanEx s (Lib.closeSpans s (Lib.spansFromP (· == 32) s f pos st acc)) = fields s := by
  have fin : ∀ (st : Option Nat) (acc : List (Nat × Nat)), (wordsTo s s.size).1 = spanEx s acc → StOk s s.size st → spanEx s (Lib.closeSpans s (acc, st)) = fields s := by
    intro st acc h1 h2
    have hsep : isSep s s.size := .inl rfl
    unfold fields
    cases st with
    | some a =>
      simp only [StOk] at h2
      rw [wordsTo_word s _ hsep (by omega)]
      simp only [Lib.closeSpans, spanEx, List.map_append, List.map_cons, List.map_nil]
      rw [h1, h2.1]; rfl
    | none =>
      simp only [StOk] at h2
      rw [wordsTo_none s _ hsep (by omega)]
      simp only [Lib.closeSpans]
      rw [h1]
  intro f
  induction f with
  | zero =>
    intro pos st acc hf hp h1 h2
    obtain rfl : pos = s.size := by omega
    exact fin st acc h1 h2
  | succ f ih =>
    intro pos st acc hf hp h1 h2
    by_cases hlt : pos < s.size
    · obtain ⟨d1, d2, d3, d4, d5⟩ := decode_space s pos hlt
      unfold Lib.spansFromP
      rw [if_pos hlt]
      generalize Utf8.decode s pos = d at d1 d2 d3 d4 d5
      have hb := byte_at s pos hlt
      by_cases h32 : d.1 = 32
      · have hs32 : s[pos].toNat = 32 := d1.1 h32
        have hsep : isSep s pos := .inr (by rw [hb]; congr 1; exact UInt8.toNat.inj hs32)
        have hw : d.2 = 1 := d4 hs32
        rw [if_pos (by simpa using h32), hw]
        cases st with
        | some a =>
          simp only [StOk] at h2
          have e := wordsTo_word s pos hsep (by omega)
          exact ih (pos + 1) none _ (by omega) (by omega) (by rw [e]; simp only [spanEx, List.map_append, List.map_cons, List.map_nil]; rw [h1, h2.1]; rfl) (by simp only [StOk]; rw [e])
        | none =>
          simp only [StOk] at h2
          have e := wordsTo_none s pos hsep (by omega)
          exact ih (pos + 1) none _ (by omega) (by omega) (by rw [e]; exact h1) (by simp only [StOk]; rw [e])
      · have hno : ∀ j, pos ≤ j → j < pos + d.2 → ¬ isSep s j := by
          intro j hj1 hj2 hj3
          rcases hj3 with rfl | hj3
          · omega
          · have hjs : j < s.size := by omega
            rw [byte_at s j hjs] at hj3
            have e32 : s[j].toNat = 32 := by rw [Option.some.inj hj3]; rfl
            by_cases ej : j = pos
            · subst ej; exact h32 (d1.2 e32)
            · exact d5 j (by omega) hj2 hjs e32
        have e := wordsTo_skip s pos d.2 hno
        rw [if_neg (by simpa using h32)]
        cases st with
        | some a =>
          simp only [StOk] at h2
          exact ih (pos + d.2) (some a) _ (by omega) (by omega) (by rw [e]; exact h1) (by simp only [StOk]; rw [e]; omega)
        | none =>
          simp only [StOk] at h2
          exact ih (pos + d.2) (some pos) _ (by omega) (by omega) (by rw [e]; exact h1) (by simp only [StOk]; rw [e]; omega)
    · obtain rfl : pos = s.size := by omega
      rw [Lib.spansFromP_end _ _ _ _ _ _ hlt]
      exact fin st acc h1 h2
theorem goFields_eq (s : ByteArray) : Lib.goFieldsP (· == 32) s = fields s :=
  spans_words s s.size 0 none [] (by omega) (Nat.zero_le _) rfl rfl

/-- every word is not empty, and no longer than the line; there are no more of them than the line has bytes. -/
theorem wordsTo_sizes (s : ByteArray) : ∀ k, k ≤ s.size + 1 → ((wordsTo s k).1.length ≤ k ∧ ∀ x ∈ (wordsTo s k).1, 0 < x.size ∧ x.size ≤ s.size)
  | 0, _ => ⟨by simp [wordsTo], by simp [wordsTo]⟩
  | k + 1, hk => by
    obtain ⟨h1, h2⟩ := wordsTo_sizes s k (by omega)
    by_cases h : isSep s k
    · by_cases hf : (wordsTo s k).2 < k
      · rw [wordsTo_word s k h hf]
        refine ⟨by simp; omega, fun x hx => ?_⟩
        simp only [List.mem_append, List.mem_singleton] at hx
        rcases hx with hx | rfl
        · exact h2 x hx
        · rw [ByteArray.size_extract]; omega
      · rw [wordsTo_none s k h hf]; exact ⟨by simp only; omega, h2⟩
    · rw [wordsTo_on s k h]; exact ⟨by omega, h2⟩
theorem fields_sizes (s : ByteArray) : (fields s).length ≤ s.size + 1 ∧ ∀ x ∈ fields s, 0 < x.size ∧ x.size ≤ s.size := wordsTo_sizes s _ (Nat.le_refl _)

/-! ### kinds of a command's further words -/
def shapes : List (List UInt8 × List UInt8) :=
  [([114, 111, 111, 116], []), ([119, 111, 114, 108, 100], []),
   ([107, 101, 99, 99, 97, 107], [72]), ([115, 104, 97], [72]), ([114, 105, 112, 101, 109, 100], [72]), ([114, 108, 112], [72]), ([100, 101, 108], [72]), ([103, 101, 116], [72]), ([112, 114, 111, 118, 101], [72]), ([99, 111, 100, 101], [72]),
   ([107, 101, 121], [78]), ([104, 97, 118, 101], [65]), ([112, 117, 116], [72, 72]), ([119, 111, 114, 100], [87, 78, 78]), ([115, 101, 97, 108], [78, 75]), ([119, 104, 111], [75, 72]),
   ([103, 105, 118, 101], [65, 78]), ([108, 97, 121], [65, 72]), ([99, 97, 108, 108], [65, 65, 78, 78, 72]), ([109, 97, 107, 101], [65, 78, 78, 72])]
def shapeOf (s : ByteArray) : Option (List UInt8) := shapes.lookup s.toList
def shOk (s : ByteArray) : Bool := (shapeOf s).isSome
def shKinds (s : ByteArray) : List UInt8 := (shapeOf s).getD []
def shStr (s : ByteArray) : ByteArray := ⟨(shKinds s).toArray⟩
theorem lookup_all {α β : Type} [BEq α] (p : β → Bool) : ∀ (l : List (α × β)) (x : α) (y : β), (l.all fun e => p e.2) = true → l.lookup x = some y → p y = true
  | [], _, _, _, h => by simp at h
  | (a, b) :: t, x, y, h, h2 => by
    simp only [List.all_cons, Bool.and_eq_true] at h
    simp only [List.lookup] at h2
    split at h2
    · obtain rfl := Option.some.inj h2; exact h.1
    · exact lookup_all p t x y h.2 h2
theorem shKinds_are (s : ByteArray) : (shKinds s).length ≤ 5 ∧ ∀ k ∈ shKinds s, k = 72 ∨ k = 78 ∨ k = 65 ∨ k = 87 ∨ k = 75 := by
  unfold shKinds
  cases h : shapeOf s with
  | none => simp
  | some y =>
    have := lookup_all (fun y => y.length ≤ 5 && y.all fun k => k == 72 || k == 78 || k == 65 || k == 87 || k == 75) shapes s.toList y (by decide +kernel) h
    simp only [Option.getD_some]
    simp only [Bool.and_eq_true, decide_eq_true_eq, List.all_eq_true, Bool.or_eq_true, beq_iff_eq] at this
    exact ⟨this.1, fun k hk => by rcases this.2 k hk with (((h | h) | h) | h) | h <;> simp [h]⟩

/-! ### bytes in hexadecimal digits -/
def isHexB (c : UInt8) : Bool := (48 ≤ c.toNat && c.toNat ≤ 57) || (97 ≤ c.toNat && c.toNat ≤ 102)
def dig (c : Int) : Int := if 48 ≤ c ∧ c ≤ 57 then c - 48 else if 97 ≤ c ∧ c ≤ 102 then c - 97 + 10 else -1
theorem dig_hex (c : UInt8) : (isHexB c = true → 0 ≤ dig c.toNat ∧ dig c.toNat ≤ 15) ∧ (isHexB c = false → dig c.toNat = -1) := by
  unfold isHexB dig
  constructor
  · intro h
    simp only [Bool.or_eq_true, Bool.and_eq_true, decide_eq_true_eq] at h
    split
    · omega
    · split <;> omega
  · intro h
    simp only [Bool.or_eq_false_iff, Bool.and_eq_false_iff, decide_eq_false_iff_not] at h
    rw [if_neg (by omega), if_neg (by omega)]
def isDash (s : ByteArray) : Bool := s.toList == [45]
def hexGood (s : ByteArray) : Bool := !s.toList.isEmpty && s.size % 2 == 0 && decide (s.size ≤ 1200) && s.data.toList.all isHexB
def hexOk (s : ByteArray) : Bool := isDash s || hexGood s
def hexLen (s : ByteArray) : Nat := if isDash s then 0 else s.size / 2
/-- the first k bytes. -/
def hexTo (s : ByteArray) : Nat → List Int
  | 0 => []
  | k + 1 => hexTo s k ++ [16 * dig (s.data.toList[2 * k]?.getD 0).toNat + dig (s.data.toList[2 * k + 1]?.getD 0).toNat]
def hexVals (s : ByteArray) : List Int := hexTo s (hexLen s)
theorem hexTo_length (s : ByteArray) (k : Nat) : (hexTo s k).length = k := by induction k with | zero => rfl | succ k ih => simp [hexTo, ih]

/-! ### numbers -/
def numVal (l : List UInt8) : Nat := l.foldl (fun a c => 10 * a + (c.toNat - 48)) 0
def isDigB (c : UInt8) : Bool := 48 ≤ c.toNat && c.toNat ≤ 57
def numForm (s : ByteArray) : Bool := s.toList.isEmpty || decide (78 < s.size) || (decide (1 < s.size) && (s.data.toList[0]?.getD 0).toNat == 48)
def numErr (s : ByteArray) : Int := if numForm s then 4 else if s.data.toList.all isDigB then (if 2 ^ 256 ≤ numVal s.data.toList then 2 else 0) else 4
theorem numVal_snoc (l : List UInt8) (c : UInt8) : numVal (l ++ [c]) = 10 * numVal l + (c.toNat - 48) := by simp [numVal, List.foldl_append]

/-! ### a command -/
def fitsK (k : Nat) (w : ByteArray) : Bool :=
  if k = 78 then numErr w == 0 else if k = 87 then decide (w.size ≤ 16) else if k = 65 then hexOk w && hexLen w == 20 else if k = 75 then hexOk w && hexLen w == 32 else hexOk w
def fitsAll : List UInt8 → List ByteArray → Bool
  | k :: ks, w :: ws => fitsK k.toNat w && fitsAll ks ws
  | _, _ => true
def canW : List ByteArray → Bool
  | [] => false
  | w :: ws => shOk w && (shKinds w).length == ws.length && fitsAll (shKinds w) ws
theorem fitsAll_iff : ∀ (ks : List UInt8) (ws : List ByteArray), fitsAll ks ws = true ↔ ∀ j, j < ks.length → j < ws.length → fitsK (ks.getD j 0).toNat (ws.getD j ByteArray.empty) = true
  | [], ws => by simp [fitsAll]
  | k :: ks, [] => by simp [fitsAll]
  | k :: ks, w :: ws => by
    simp only [fitsAll, Bool.and_eq_true, fitsAll_iff ks ws, List.length_cons]
    constructor
    · rintro ⟨h1, h2⟩ j hj1 hj2
      cases j with
      | zero => exact h1
      | succ j => exact h2 j (by omega) (by omega)
    · intro h
      exact ⟨h 0 (by omega) (by omega), fun j h1 h2 => h (j + 1) (by omega) (by omega)⟩
theorem shStr_size (s : ByteArray) : (shStr s).size = (shKinds s).length := by simp [shStr, ByteArray.size]
theorem shStr_at (s : ByteArray) (i : Nat) (h : i < (shStr s).size) : (shStr s)[i].toNat = ((shKinds s).getD i 0).toNat := by
  have h2 := byte_at (shStr s) i h
  have h3 : (shStr s).data.toList = shKinds s := by simp [shStr]
  rw [h3] at h2
  rw [List.getD_eq_getElem?_getD, h2]; rfl
theorem shKind_cases (s : ByteArray) (i : Nat) (h : i < (shStr s).size) : (shStr s)[i].toNat = 72 ∨ (shStr s)[i].toNat = 78 ∨ (shStr s)[i].toNat = 65 ∨ (shStr s)[i].toNat = 87 ∨ (shStr s)[i].toNat = 75 := by
  rw [shStr_at s i h]
  rw [shStr_size] at h
  have := (shKinds_are s).2 ((shKinds s).getD i 0) (by simp [h])
  rcases this with h | h | h | h | h <;> rw [h] <;> decide
theorem numErr_cases (s : ByteArray) : numErr s = 0 ∨ numErr s = 2 ∨ numErr s = 4 := by
  unfold numErr
  split
  · simp
  · split
    · split <;> simp
    · simp
theorem canW_shape {L : List ByteArray} (h : shOk (L.getD 0 ByteArray.empty) = false) : canW L = false := by
  cases L with
  | nil => rfl
  | cons w ws => simp only [List.getD_cons_zero] at h; simp [canW, h]
theorem canW_len {L : List ByteArray} (h : L.length ≠ (shStr (L.getD 0 ByteArray.empty)).size + 1) : canW L = false := by
  cases L with
  | nil => rfl
  | cons w ws =>
    simp only [List.getD_cons_zero, List.length_cons, shStr_size] at h
    have e : ((shKinds w).length == ws.length) = false := by rw [beq_eq_false_iff_ne]; omega
    simp [canW, e]
theorem canW_fit {L : List ByteArray} {j : Nat} (hj : j < (shStr (L.getD 0 ByteArray.empty)).size) (hl : L.length = (shStr (L.getD 0 ByteArray.empty)).size + 1)
    (h : fitsK ((shKinds (L.getD 0 ByteArray.empty)).getD j 0).toNat (L.getD (j + 1) ByteArray.empty) = false) : canW L = false := by
  cases L with
  | nil => rfl
  | cons w ws =>
    simp only [List.getD_cons_zero, List.length_cons, shStr_size, List.getD_cons_succ] at h hj hl
    have e : fitsAll (shKinds w) ws = false := by
      cases hf : fitsAll (shKinds w) ws
      · rfl
      · have := (fitsAll_iff _ _).1 hf j hj (by omega)
        rw [h] at this; cases this
    simp [canW, e]
theorem canW_all {L : List ByteArray} (h0 : 0 < L.length) (hs : shOk (L.getD 0 ByteArray.empty) = true) (hl : L.length = (shStr (L.getD 0 ByteArray.empty)).size + 1)
    (h : ∀ j, j < (shStr (L.getD 0 ByteArray.empty)).size → fitsK ((shKinds (L.getD 0 ByteArray.empty)).getD j 0).toNat (L.getD (j + 1) ByteArray.empty) = true) : canW L = true := by
  cases L with
  | nil => simp at h0
  | cons w ws =>
    simp only [List.getD_cons_zero, List.length_cons, shStr_size, List.getD_cons_succ] at h hs hl
    have e : ((shKinds w).length == ws.length) = true := by rw [beq_iff_eq]; omega
    simp only [canW, hs, e, Bool.true_and]
    exact (fitsAll_iff _ _).2 fun j h1 _ => h j h1
inductive LineKind where
  | none
  | bad
  | cmd (ws : List ByteArray)
def headHash : List ByteArray → Bool
  | [] => true
  | w :: _ => (w.data.toList[0]?.getD 0).toNat == 35
def lineKind (line : ByteArray) : LineKind :=
  if headHash (fields line) then .none else if canW (fields line) then .cmd (fields line) else .bad

/-! ### a script -/
abbrev Cmd := Nat × List ByteArray
inductive Res where
  | bad (n : Nat)
  | ok (l : List Cmd)
def lineOf (l : List UInt8) : List UInt8 := l.takeWhile (· != 10)
def restOf (l : List UInt8) : List UInt8 := (l.dropWhile (· != 10)).drop 1
def parseL : Nat → List UInt8 → Nat → List Cmd → Res
  | 0, _, _, acc => .ok acc
  | f + 1, l, n, acc =>
    if l = [] then .ok acc else
    match lineKind ⟨(lineOf l).toArray⟩ with
    | .none => parseL f (restOf l) (n + 1) acc
    | .bad => .bad n
    | .cmd ws => if 200 ≤ acc.length then .bad n else parseL f (restOf l) (n + 1) (acc ++ [(n, ws)])
def parseS (s : ByteArray) : Res := parseL s.size s.data.toList 1 []
theorem restOf_lt (l : List UInt8) (h : l ≠ []) : (restOf l).length < l.length := by
  unfold restOf
  have h1 : (l.dropWhile (· != 10)).length ≤ l.length := (List.dropWhile_sublist _).length_le
  have h2 : 0 < l.length := List.length_pos_iff.2 h
  simp only [List.length_drop]
  omega
end Go.Proofs.YtkmpbmlcmglmnaaGreatDoor

namespace Go.Proofs.YtkmpbmlcmglmnaaGreatDoor
open Go

theorem line_cases : ∀ (l : List UInt8), (Lib.index l [10] = -1 ∧ lineOf l = l ∧ restOf l = []) ∨
    (∃ i : Nat, Lib.index l [10] = i ∧ lineOf l = l.take i ∧ restOf l = l.drop (i + 1) ∧ i < l.length)
  | [] => .inl ⟨by simp [Lib.index], by simp [lineOf], by simp [restOf]⟩
  | b :: l => by
    by_cases hb : b = 10
    · subst hb
      exact .inr ⟨0, by simp [Lib.index], by simp [lineOf], by simp [restOf], by simp⟩
    · have hb' : ((10 : UInt8) == b) = false := by rw [beq_eq_false_iff_ne]; exact fun h => hb h.symm
      have e1 : lineOf (b :: l) = b :: lineOf l := by simp [lineOf, hb]
      have e2 : restOf (b :: l) = restOf l := by simp [restOf, hb]
      have e3 : Lib.index (b :: l) [10] = if Lib.index l [10] == -1 then -1 else Lib.index l [10] + 1 := by
        rw [Lib.index, if_neg (by simp [List.isPrefixOf, hb'])]
      rcases line_cases l with ⟨h1, h2, h3⟩ | ⟨i, h1, h2, h3, h4⟩
      · refine .inl ⟨by rw [e3, h1]; decide, by rw [e1, h2], by rw [e2, h3]⟩
      · refine .inr ⟨i + 1, ?_, by rw [e1, h2]; rfl, by rw [e2, h3]; simp, by simp; omega⟩
        rw [e3, h1, if_neg (by simp <;> omega)]; rfl

theorem cut_nl (l : List UInt8) : (Lib.cut l [10]).1 = lineOf l ∧ (Lib.cut l [10]).2.1 = restOf l := by
  unfold Lib.cut
  rcases line_cases l with ⟨h1, h2, h3⟩ | ⟨i, h1, h2, h3, h4⟩
  · rw [h1, if_neg (by decide), h2, h3]; exact ⟨rfl, rfl⟩
  · rw [h1, if_pos (by omega), h2, h3]; exact ⟨by simp, by simp⟩

theorem take_line : ∀ (l : List UInt8) (n : Nat), (∀ j, j < n → l[j]? ≠ some 10) → (n = l.length ∨ l[n]? = some 10) → lineOf l = l.take n ∧ restOf l = l.drop (n + 1)
  | [], n, _, h => by
    rcases h with h | h
    · simp at h; subst h; simp [lineOf, restOf]
    · simp at h
  | b :: l, 0, _, h => by
    rcases h with h | h
    · simp at h
    · simp at h; subst h; simp [lineOf, restOf]
  | b :: l, n + 1, h1, h2 => by
    have hb : b ≠ 10 := by have := h1 0 (by omega); simpa using this
    obtain ⟨i1, i2⟩ := take_line l n (fun j hj => by have := h1 (j + 1) (by omega); simpa using this) (by simpa using h2)
    have e1 : lineOf (b :: l) = b :: lineOf l := by simp [lineOf, hb]
    have e2 : restOf (b :: l) = restOf l := by simp [restOf, hb]
    rw [e1, e2, i1, i2]; simp

theorem line_at (l : List UInt8) (a e : Nat) (hae : a ≤ e) (_he : e ≤ l.length) (h1 : ∀ j, a ≤ j → j < e → l[j]? ≠ some 10) (h2 : e = l.length ∨ l[e]? = some 10) :
    lineOf (l.drop a) = (l.drop a).take (e - a) ∧ restOf (l.drop a) = l.drop (e + 1) := by
  obtain ⟨i1, i2⟩ := take_line (l.drop a) (e - a) (fun j hj => by rw [List.getElem?_drop]; exact h1 _ (by omega) (by omega)) (by
    rcases h2 with h2 | h2
    · left; simp; omega
    · right; rw [List.getElem?_drop, show a + (e - a) = e by omega]; exact h2)
  refine ⟨i1, ?_⟩
  rw [i2, List.drop_drop, show a + (e - a + 1) = e + 1 by omega]

theorem extract_list (s : ByteArray) (a e : Nat) : s.extract a e = ⟨((s.data.toList.drop a).take (e - a)).toArray⟩ := by
  rw [← Lib.mk_data (s.extract a e), Lib.extract_data]

/-! ### steps of the reader -/
theorem parseL_done (f n : Nat) (acc : List Cmd) : parseL f [] n acc = .ok acc := by cases f <;> simp [parseL]
theorem parseL_none (f : Nat) (l : List UInt8) (n : Nat) (acc : List Cmd) (h : l ≠ []) (hk : headHash (fields ⟨(lineOf l).toArray⟩) = true) :
    parseL (f + 1) l n acc = parseL f (restOf l) (n + 1) acc := by
  simp only [parseL]; rw [if_neg h]; unfold lineKind; rw [if_pos hk]
theorem parseL_bad (f : Nat) (l : List UInt8) (n : Nat) (acc : List Cmd) (h : l ≠ []) (hk : headHash (fields ⟨(lineOf l).toArray⟩) = false) (hc : canW (fields ⟨(lineOf l).toArray⟩) = false) :
    parseL (f + 1) l n acc = .bad n := by
  simp only [parseL]; rw [if_neg h]; unfold lineKind; rw [if_neg (by rw [hk]; decide), if_neg (by rw [hc]; decide)]
theorem parseL_many (f : Nat) (l : List UInt8) (n : Nat) (acc : List Cmd) (h : l ≠ []) (hk : headHash (fields ⟨(lineOf l).toArray⟩) = false) (hm : 200 ≤ acc.length) :
    parseL (f + 1) l n acc = .bad n := by
  simp only [parseL]; rw [if_neg h]; unfold lineKind; rw [if_neg (by rw [hk]; decide)]
  split
  · rename_i he; split at he <;> cases he
  · rfl
  · rw [if_pos hm]
theorem parseL_cmd (f : Nat) (l : List UInt8) (n : Nat) (acc : List Cmd) (h : l ≠ []) (hk : headHash (fields ⟨(lineOf l).toArray⟩) = false) (hc : canW (fields ⟨(lineOf l).toArray⟩) = true) (hm : acc.length < 200) :
    parseL (f + 1) l n acc = parseL f (restOf l) (n + 1) (acc ++ [(n, fields ⟨(lineOf l).toArray⟩)]) := by
  simp only [parseL]; rw [if_neg h]; unfold lineKind; rw [if_neg (by rw [hk]; decide), if_pos hc]
  simp only
  rw [if_neg (by omega)]
end Go.Proofs.YtkmpbmlcmglmnaaGreatDoor

namespace Go.Proofs.YtkmpbmlcmglmnaaGreatDoor
open Go

/-- the number that digits to a base make, the lowest first. -/
def val (b : Nat) : List Nat → Nat
  | [] => 0
  | d :: l => d + b * val b l
theorem val_snoc (b : Nat) : ∀ (l : List Nat) (d : Nat), val b (l ++ [d]) = val b l + d * b ^ l.length
  | [], d => by simp [val]
  | e :: l, d => by
    simp only [List.cons_append, val, val_snoc b l d, List.length_cons, Nat.pow_succ]
    rw [Nat.mul_add, Nat.add_assoc]
    congr 2
    rw [Nat.mul_comm b, Nat.mul_assoc]
theorem val_append (b : Nat) : ∀ (l m : List Nat), val b (l ++ m) = val b l + b ^ l.length * val b m
  | [], m => by simp [val]
  | e :: l, m => by
    simp only [List.cons_append, val, val_append b l m, List.length_cons, Nat.pow_succ]
    rw [Nat.mul_add, Nat.add_assoc]
    congr 2
    rw [← Nat.mul_assoc, Nat.mul_comm b]
theorem val_lt (b : Nat) (hb : 0 < b) : ∀ (l : List Nat), (∀ d ∈ l, d < b) → val b l < b ^ l.length
  | [], _ => by simp [val]
  | d :: l, h => by
    have h1 := val_lt b hb l (fun x hx => h x (by simp [hx]))
    have h2 : d < b := h d (by simp)
    simp only [val, List.length_cons, Nat.pow_succ]
    have h3 : b * (val b l + 1) ≤ b * b ^ l.length := Nat.mul_le_mul_left b h1
    rw [Nat.mul_add, Nat.mul_one, Nat.mul_comm b (b ^ l.length)] at h3
    omega
theorem val_zero (b : Nat) : ∀ (l : List Nat), (∀ d ∈ l, d = 0) → val b l = 0
  | [], _ => rfl
  | d :: l, h => by simp only [val]; rw [val_zero b l (fun x hx => h x (by simp [hx])), h d (by simp)]; rfl
theorem val_take (b : Nat) (l : List Nat) (k : Nat) : val b l = val b (l.take k) + b ^ (min k l.length) * val b (l.drop k) := by
  conv => lhs; rw [← List.take_append_drop k l]
  rw [val_append, List.length_take]
/-- a number is below the base's k-th power just where all digits from the k-th on are 0. -/
theorem val_small (b : Nat) (hb : 0 < b) (l : List Nat) (k : Nat) (h : ∀ d ∈ l, d < b) : val b l < b ^ k ↔ ∀ d ∈ l.drop k, d = 0 := by
  rw [val_take b l k]
  constructor
  · intro hlt d hd
    by_cases hk : k ≤ l.length
    · rw [Nat.min_eq_left hk] at hlt
      have hz : val b (l.drop k) = 0 := by
        rcases Nat.eq_zero_or_pos (val b (l.drop k)) with h0 | h0
        · exact h0
        · have : b ^ k * 1 ≤ b ^ k * val b (l.drop k) := Nat.mul_le_mul_left _ h0
          omega
      have all0 : ∀ (m : List Nat), val b m = 0 → ∀ x ∈ m, x = 0 := by
        intro m
        induction m with
        | nil => intro _ x hx; simp at hx
        | cons e m ih =>
          intro h0 x hx
          simp only [val] at h0
          have h1 : e = 0 := by omega
          have h2 : val b m = 0 := by
            have : b * val b m = 0 := by omega
            rcases Nat.mul_eq_zero.1 this with h3 | h3
            · omega
            · exact h3
          rcases List.mem_cons.1 hx with rfl | hx
          · exact h1
          · exact ih h2 x hx
      exact all0 _ hz d hd
    · rw [List.drop_of_length_le (by omega)] at hd; simp at hd
  · intro h0
    rw [val_zero b _ h0, Nat.mul_zero, Nat.add_zero]
    by_cases hk : k ≤ l.length
    · have := val_lt b hb (l.take k) (fun d hd => h d (List.mem_of_mem_take hd))
      rwa [List.length_take, Nat.min_eq_left hk] at this
    · have h1 := val_lt b hb (l.take k) (fun d hd => h d (List.mem_of_mem_take hd))
      rw [List.length_take, Nat.min_eq_right (by omega)] at h1
      exact Nat.lt_of_lt_of_le h1 (Nat.pow_le_pow_right hb (by omega))

/-- one place of a sum: what is carried goes on. -/
theorem sum_step (b k c x y V W : Nat) (r : List Nat) (hr : r.length = k) (h : val b r + c * b ^ k = V + W) :
    val b (r ++ [(c + x + y) % b]) + (c + x + y) / b * b ^ (k + 1) = (V + x * b ^ k) + (W + y * b ^ k) := by
  rw [val_snoc, hr, Nat.pow_succ]
  have e := Nat.mod_add_div (c + x + y) b
  generalize (c + x + y) % b = m at e ⊢
  generalize (c + x + y) / b = q at e ⊢
  generalize b ^ k = P at h ⊢
  have e2 : m * P + q * (P * b) = (m + b * q) * P := by rw [Nat.add_mul, Nat.mul_comm P b, ← Nat.mul_assoc, Nat.mul_comm b q]
  rw [Nat.add_assoc, e2, e, Nat.add_mul, Nat.add_mul]
  omega
theorem val_take_succ (b : Nat) (l : List Nat) (k : Nat) : val b (l.take (k + 1)) = val b (l.take k) + l.getD k 0 * b ^ k := by
  by_cases h : k < l.length
  · rw [List.take_succ_eq_append_getElem h, val_snoc, List.length_take, Nat.min_eq_left (by omega)]
    simp [List.getD, h]
  · rw [List.take_of_length_le (by omega), List.take_of_length_le (by omega)]
    simp [List.getD, h]
theorem val_set (b : Nat) : ∀ (l : List Nat) (k x : Nat), k < l.length → val b (l.set k x) + l.getD k 0 * b ^ k = val b l + x * b ^ k
  | [], k, x, h => by simp at h
  | d :: l, 0, x, _ => by simp [val]; omega
  | d :: l, k + 1, x, h => by
    have ih := val_set b l k x (by simpa using h)
    simp only [List.set_cons_succ, val, List.getD_cons_succ, Nat.pow_succ]
    have e1 : l.getD k 0 * (b ^ k * b) = b * (l.getD k 0 * b ^ k) := by rw [← Nat.mul_assoc, Nat.mul_comm]
    have e2 : x * (b ^ k * b) = b * (x * b ^ k) := by rw [← Nat.mul_assoc, Nat.mul_comm]
    rw [e1, e2, Nat.add_assoc, ← Nat.mul_add, ih, Nat.mul_add, ← Nat.add_assoc]
end Go.Proofs.YtkmpbmlcmglmnaaGreatDoor

namespace Go.Proofs.YtkmpbmlcmglmnaaGreatDoor
open Go

/-- 2^64, behind a name. -/
def b64 : Nat := 18446744073709551616
theorem b64_pos : 0 < b64 := by unfold b64; omega
/-- the digits of a number to a base. -/
def digs (b : Nat) : Nat → Nat → List Nat
  | 0, _ => []
  | k + 1, n => n % b :: digs b k (n / b)
theorem digs_length (b : Nat) : ∀ (k n : Nat), (digs b k n).length = k
  | 0, _ => rfl
  | k + 1, n => by simp [digs, digs_length b k]
theorem digs_lt (b : Nat) (hb : 0 < b) : ∀ (k n : Nat), ∀ d ∈ digs b k n, d < b
  | 0, _, d, h => by simp [digs] at h
  | k + 1, n, d, h => by
    simp only [digs, List.mem_cons] at h
    rcases h with rfl | h
    · exact Nat.mod_lt _ hb
    · exact digs_lt b hb k _ d h
theorem val_digs (b : Nat) : ∀ (k n : Nat), val b (digs b k n) = n % b ^ k
  | 0, n => by simp [digs, val, Nat.mod_one]
  | k + 1, n => by
    simp only [digs, val]
    rw [val_digs b k, Nat.pow_succ, Nat.mul_comm (b ^ k) b, Nat.mod_mul]
theorem digs_val (b : Nat) (hb : 0 < b) : ∀ (l : List Nat), (∀ d ∈ l, d < b) → digs b l.length (val b l) = l
  | [], _ => rfl
  | d :: l, h => by
    have hd : d < b := h d (by simp)
    have h1 : (d + b * val b l) % b = d := by rw [Nat.add_mul_mod_self_left, Nat.mod_eq_of_lt hd]
    have h2 : (d + b * val b l) / b = val b l := by rw [Nat.add_mul_div_left _ _ hb, Nat.div_eq_of_lt hd, Nat.zero_add]
    simp only [List.length_cons, digs, val, h1, h2]
    rw [digs_val b hb l (fun x hx => h x (by simp [hx]))]
/-- the i-th part. -/
def limb (n i : Nat) : Nat := n / b64 ^ i % b64
theorem limb_lt (n i : Nat) : limb n i < b64 := Nat.mod_lt _ b64_pos
def word (a : Nat) : Value := .agg #[.int .u64 (limb a 0), .int .u64 (limb a 1), .int .u64 (limb a 2), .int .u64 (limb a 3)]
theorem val_limbs (a : Nat) : val b64 [limb a 0, limb a 1, limb a 2, limb a 3] = a % b64 ^ 4 := by
  have : digs b64 4 a = [limb a 0, limb a 1, limb a 2, limb a 3] := by
    simp only [digs, limb, Nat.pow_zero, Nat.div_one, Nat.pow_one, Nat.div_div_eq_div_mul]
    rw [show b64 ^ 2 = b64 * b64 from by rw [Nat.pow_succ, Nat.pow_one], show b64 ^ 3 = b64 * b64 * b64 from by rw [Nat.pow_succ, Nat.pow_succ, Nat.pow_one]]
  rw [← this, val_digs]
theorem word_of (r0 r1 r2 r3 : Nat) (h0 : r0 < b64) (h1 : r1 < b64) (h2 : r2 < b64) (h3 : r3 < b64) :
    word (val b64 [r0, r1, r2, r3]) = .agg #[.int .u64 r0, .int .u64 r1, .int .u64 r2, .int .u64 r3] := by
  have e := digs_val b64 b64_pos [r0, r1, r2, r3] (by simp [h0, h1, h2, h3])
  have d : digs b64 4 (val b64 [r0, r1, r2, r3]) = [limb (val b64 [r0, r1, r2, r3]) 0, limb (val b64 [r0, r1, r2, r3]) 1, limb (val b64 [r0, r1, r2, r3]) 2, limb (val b64 [r0, r1, r2, r3]) 3] := by
    generalize val b64 [r0, r1, r2, r3] = a
    simp only [digs, limb, Nat.pow_zero, Nat.div_one, Nat.pow_one, Nat.div_div_eq_div_mul]
    rw [show b64 ^ 2 = b64 * b64 from by rw [Nat.pow_succ, Nat.pow_one], show b64 ^ 3 = b64 * b64 * b64 from by rw [Nat.pow_succ, Nat.pow_succ, Nat.pow_one]]
  rw [show [r0, r1, r2, r3].length = 4 from rfl, d] at e
  simp only [List.cons.injEq, and_true] at e
  unfold word
  rw [e.1, e.2.1, e.2.2.1, e.2.2.2]
end Go.Proofs.YtkmpbmlcmglmnaaGreatDoor

namespace Go.Proofs.YtkmpbmlcmglmnaaGreatDoor
open Go

def hexUp (s : ByteArray) (j : Nat) : Prop := ∀ (i : Nat) (c : UInt8), i < j → s.data.toList[i]? = some c → isHexB c = true
theorem hexUp_zero (s : ByteArray) : hexUp s 0 := fun i c h => by omega
theorem hexUp_two {s : ByteArray} {j : Nat} (h : hexUp s j) (h0 : j < s.size) (h1 : j + 1 < s.size) (a0 : isHexB s[j] = true) (a1 : isHexB s[j + 1] = true) : hexUp s (j + 2) := by
  intro i c hi hc
  rcases (by omega : i < j ∨ i = j ∨ i = j + 1) with h2 | rfl | rfl
  · exact h i c h2 hc
  · rw [byte_at s i h0] at hc; obtain rfl := Option.some.inj hc; exact a0
  · rw [byte_at s (j + 1) h1] at hc; obtain rfl := Option.some.inj hc; exact a1
theorem hexUp_all {s : ByteArray} {j : Nat} (h : hexUp s j) (hj : s.size ≤ j) : s.data.toList.all isHexB = true := by
  rw [List.all_eq_true]
  intro c hc
  obtain ⟨i, hi⟩ := List.getElem?_of_mem hc
  have hlt := (List.getElem?_eq_some_iff.1 hi).1
  have hs : s.data.toList.length = s.size := rfl
  exact h i c (by omega) hi
theorem hexUp_of_all {s : ByteArray} (h : s.data.toList.all isHexB = true) (j : Nat) : hexUp s j := fun _ c _ hc =>
  (List.all_eq_true.1 h) c (List.mem_of_getElem? hc)
theorem isEmpty_size (s : ByteArray) : s.toList.isEmpty = decide (s.size = 0) := by
  rw [ByteArray.toList_eq]
  have hs : s.data.toList.length = s.size := rfl
  rw [← hs]
  cases s.data.toList <;> simp
theorem hexGood_bad {s : ByteArray} {i : Nat} (h : i < s.size) (hb : isHexB s[i] = false) : hexGood s = false := by
  unfold hexGood
  have : s.data.toList.all isHexB = false := by
    rw [List.all_eq_false]
    exact ⟨s[i], List.mem_of_getElem? (byte_at s i h), by rw [hb]; decide⟩
  rw [this, Bool.and_false]
theorem hexGood_of {s : ByteArray} {k : Nat} (h : hexUp s (2 * k)) (hk : s.size ≤ 2 * k + 1) : hexGood s = (decide (0 < s.size) && (s.size % 2 == 0) && decide (s.size ≤ 1200)) := by
  unfold hexGood
  rw [isEmpty_size]
  by_cases h2 : s.size % 2 = 0
  · rw [hexUp_all h (by omega)]
    by_cases h0 : s.size = 0
    · simp [h0]
    · have : 0 < s.size := by omega
      simp [h0, this]
  · have e : (s.size % 2 == 0) = false := by rw [beq_eq_false_iff_ne]; exact h2
    rw [e]; simp

/-! ### strings.Trim at the sixteen digits -/
def hexesL : List UInt8 := [48, 49, 50, 51, 52, 53, 54, 55, 56, 57, 97, 98, 99, 100, 101, 102]
theorem byte_all (p : UInt8 → Bool) (h : ((List.range 256).all fun n => p (UInt8.ofNat n)) = true) (c : UInt8) : p c = true := by
  have h1 := (List.all_eq_true.1 h) c.toNat (by rw [List.mem_range]; exact c.toNat_lt)
  rwa [UInt8.ofNat_toNat] at h1
theorem hexes_contains (c : UInt8) : hexesL.contains c = isHexB c := by
  have := byte_all (fun c => hexesL.contains c == isHexB c) (by decide +kernel) c
  simpa using this
theorem hexes_index (c : UInt8) (h : isHexB c = true) : Lib.indexByte hexesL c = dig c.toNat := by
  have := byte_all (fun c => !isHexB c || decide (Lib.indexByte hexesL c = dig c.toNat)) (by decide +kernel) c
  rw [h] at this
  simpa using this
theorem dropWhile_nil (p : UInt8 → Bool) : ∀ l : List UInt8, l.dropWhile p = [] ↔ ∀ x ∈ l, p x = true
  | [] => by simp
  | x :: l => by
    rw [List.dropWhile_cons]
    by_cases h : p x = true
    · rw [if_pos h, dropWhile_nil p l]; simp [h]
    · rw [if_neg h]; simp [h]
theorem trimS_nil (l cs : List UInt8) : Lib.trimS l cs = [] ↔ l.all (cs.contains ·) = true := by
  unfold Lib.trimS Lib.trimLeftS Lib.trimRightS
  rw [List.all_eq_true]
  constructor
  · intro h x hx
    rw [dropWhile_nil] at h
    cases hd : l.reverse.dropWhile (cs.contains ·) with
    | nil =>
      rw [dropWhile_nil] at hd
      exact hd x (by simpa using hx)
    | cons y t =>
      have h1 := h y (by rw [hd]; simp)
      have h2 := List.head_dropWhile_not (p := (cs.contains ·)) (l := l.reverse) (by rw [hd]; simp)
      simp only [hd, List.head_cons] at h2
      rw [h1] at h2; cases h2
  · intro h
    have : l.reverse.dropWhile (cs.contains ·) = [] := by
      rw [dropWhile_nil]
      intro x hx
      exact h x (by simpa using hx)
    rw [this]; rfl
theorem trim_hex (s : ByteArray) : (Lib.trimS s.data.toList hexesL).isEmpty = s.data.toList.all isHexB := by
  have e : (fun x => hexesL.contains x) = isHexB := funext hexes_contains
  have := trimS_nil s.data.toList hexesL
  rw [e] at this
  cases h : s.data.toList.all isHexB
  · rw [h] at this
    have hn : Lib.trimS s.data.toList hexesL ≠ [] := fun x => by have := this.1 x; cases this
    simpa using hn
  · rw [this.2 h]; rfl
/-- two digits as a byte. -/
theorem two_digits (a b : Int) (ha : 0 ≤ a) (ha2 : a ≤ 15) (hb : 0 ≤ b) (hb2 : b ≤ 15) : ∃ (x y : Nat), a = x ∧ b = y ∧ x ≤ 15 ∧ y ≤ 15 := ⟨a.toNat, b.toNat, by omega, by omega, by omega, by omega⟩
end Go.Proofs.YtkmpbmlcmglmnaaGreatDoor
