/- The tie of this row, joined out of its pieces. -/
import Derived.Test.YtkmpbmlcmglmnaaGreatDoorKnotA
import Derived.Test.YtkmpbmlcmglmnaaGreatDoorKnotB
import Derived.Test.YtkmpbmlcmglmnaaGreatDoorKnotC
import Derived.Test.YtkmpbmlcmglmnaaGreatDoorKnotD
import Derived.Test.YtkmpbmlcmglmnaaGreatDoorKnotE
import Derived.Test.YtkmpbmlcmglmnaaGreatDoorKnotF
import Derived.SevenTiedAt
set_option linter.all false
namespace Go.Proofs.YtkmpbmlcmglmnaaGreatDoor
open Go
theorem tied_rows : ∀ os tape, (DataW.laidRun Tryz.prog (varsWorld Tryz.prog 400 (varsId Tryz.prog) os tape).memory 8 (tied.map (·.1))).map (fun x => decide x.2.Nodup && laidRowsB Tryz.prog (varsWorld Tryz.prog 400 (varsId Tryz.prog) os tape).memory x.2) = some true := by
  intro os tape
  have hn := knot_apart os tape
  have hr : ∀ x, DataW.laidRun Tryz.prog (varsWorld Tryz.prog 400 (varsId Tryz.prog) os tape).memory 8 (tied.map (·.1)) = some x → laidRowsB Tryz.prog (varsWorld Tryz.prog 400 (varsId Tryz.prog) os tape).memory x.2 = true := by
    intro x hx
    rw [names_parts] at hx
    obtain ⟨y, z, hy, hz, e⟩ := laidRun_app _ _ _ _ _ _ hx
    have h1 := rows_app (rows_one os tape) (rows_two os tape) hy
    have h2 := rows_three os tape
    rw [hz] at h2
    simp only [Option.map_some, Option.some.injEq] at h2
    rw [e]
    unfold laidRowsB at h1 h2 ⊢
    rw [List.all_append, h1, h2]; rfl
  generalize (varsWorld Tryz.prog 400 (varsId Tryz.prog) os tape).memory = mem at hn hr ⊢
  cases hx : DataW.laidRun Tryz.prog mem 8 (tied.map (·.1)) with
  | none => rw [hx] at hn; cases hn
  | some x =>
    have hr1 := hr x hx
    rw [hx] at hn
    simp only [Option.map_some, Option.some.injEq] at hn ⊢
    rw [hr1, Bool.and_true]
    exact decide_eq_true (apart_places hn)
theorem tied_all : Tryz.prog.laidByTextLater tied tiedK true :=
  Program.laidByTextLater_by_run 400 8 knot_words.1 knot_words.2.1 knot_words.2.2.1 knot_words.2.2.2.1 knot_words.2.2.2.2 knot_named knot_done knot_reads tied_rows knot_all
theorem pin_laid_unicode_utf8_first : Tryz.pinned.checked.prog.pinnedFits "unicode/utf8.first" = true := by kernel_rfl
theorem noOwnUnsafe : Tryz.pinned.checked.prog.headLifts.contains "ownunsafe" = false := by kernel_rfl
theorem fits1 : Tryz.pinned.checked.prog.listedFits [("unicode/utf8.first", Rows.laid_unicode_utf8_first), ("unicode/utf8.acceptRanges", Rows.laid_unicode_utf8_acceptRanges), ("bailiwick/keccak.constants", Rows.laid_bailiwick_keccak_constants), ("bailiwick/keccak.places", Rows.laid_bailiwick_keccak_places), ("bailiwick/keccak.turns", Rows.laid_bailiwick_keccak_turns), ("internal/strconv.uint64pow10", Rows.laid_internal_strconv_uint64pow10), ("math/bits.deBruijn32tab", Rows.laid_math_bits_deBruijn32tab), ("math/bits.deBruijn64tab", Rows.laid_math_bits_deBruijn64tab), ("bailiwick/sha.begun", Rows.laid_bailiwick_sha_begun), ("bailiwick/sha.k", Rows.laid_bailiwick_sha_k), ("bailiwick/ripemd.begun", Rows.laid_bailiwick_ripemd_begun), ("bailiwick/ripemd.first", Rows.laid_bailiwick_ripemd_first), ("bailiwick/ripemd.second", Rows.laid_bailiwick_ripemd_second), ("bailiwick/ripemd.turns", Rows.laid_bailiwick_ripemd_turns), ("bailiwick/ripemd.rho", Rows.laid_bailiwick_ripemd_rho), ("strings.asciiSpace", Rows.laid_strings_asciiSpace), ("unicode.White_Space", Rows.laid_unicode_White_Space), ("bailiwick/blake.rows", Rows.laid_bailiwick_blake_rows), ("bailiwick/blake.lines", Rows.laid_bailiwick_blake_lines)] = true := by
  unfold Program.listedFits
  rw [noOwnUnsafe]
  kernel_rfl
theorem tie : Tryz.prog.laidByTextLater [("unicode/utf8.acceptRanges", Rows.laid_unicode_utf8_acceptRanges), ("bailiwick/keccak.constants", Rows.laid_bailiwick_keccak_constants), ("bailiwick/keccak.places", Rows.laid_bailiwick_keccak_places), ("bailiwick/keccak.turns", Rows.laid_bailiwick_keccak_turns), ("internal/strconv.uint64pow10", Rows.laid_internal_strconv_uint64pow10), ("math/bits.deBruijn32tab", Rows.laid_math_bits_deBruijn32tab), ("math/bits.deBruijn64tab", Rows.laid_math_bits_deBruijn64tab), ("bailiwick/sha.begun", Rows.laid_bailiwick_sha_begun), ("bailiwick/sha.k", Rows.laid_bailiwick_sha_k), ("bailiwick/ripemd.begun", Rows.laid_bailiwick_ripemd_begun), ("bailiwick/ripemd.first", Rows.laid_bailiwick_ripemd_first), ("bailiwick/ripemd.second", Rows.laid_bailiwick_ripemd_second), ("bailiwick/ripemd.turns", Rows.laid_bailiwick_ripemd_turns), ("bailiwick/ripemd.rho", Rows.laid_bailiwick_ripemd_rho), ("strings.asciiSpace", Rows.laid_strings_asciiSpace), ("unicode.White_Space", Rows.laid_unicode_White_Space), ("bailiwick/blake.rows", Rows.laid_bailiwick_blake_rows), ("bailiwick/blake.lines", Rows.laid_bailiwick_blake_lines)] [.data, .data, .data, .data, .data, .data, .data, .data, .data, .data, .data, .data, .data, .data, .data, .listed, .data, .data] true := tied_all
theorem shellParses_row_tie : Rows.shellParsesRow.laidByTextAt .later Tryz.pinned [.pinned, .data, .data, .data, .data, .data, .data, .data, .data, .data, .data, .data, .data, .data, .data, .data, .listed, .data, .data] true :=
  OpenClaim.laidByTextAt_pinned rfl rfl tie rfl rfl rfl rfl (fun y hy _e => by
    simp only [Rows.shellParsesRow, List.zip_cons_cons, List.zip_nil_right, List.mem_cons, List.mem_nil_iff, or_false] at hy
    rcases hy with rfl | rfl | rfl | rfl | rfl | rfl | rfl | rfl | rfl | rfl | rfl | rfl | rfl | rfl | rfl | rfl | rfl | rfl | rfl
    · exact ⟨pin_laid_unicode_utf8_first, by kernel_rfl⟩
    · cases _e
    · cases _e
    · cases _e
    · cases _e
    · cases _e
    · cases _e
    · cases _e
    · cases _e
    · cases _e
    · cases _e
    · cases _e
    · cases _e
    · cases _e
    · cases _e
    · cases _e
    · cases _e
    · cases _e
    · cases _e) fits1
end Go.Proofs.YtkmpbmlcmglmnaaGreatDoor
