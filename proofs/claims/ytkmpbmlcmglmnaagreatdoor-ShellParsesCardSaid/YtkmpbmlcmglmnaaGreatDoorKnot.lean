/- What the listed variables read as, told once. -/
import Derived.Test.YtkmpbmlcmglmnaaGreatDoorRows
import Derived.LaidByTextLater
import Derived.Deep.DeepLaidRun
set_option linter.all false
namespace Go.Proofs.YtkmpbmlcmglmnaaGreatDoor
open Go
def tied : List (String × DataW Unit) := [("unicode/utf8.acceptRanges", Rows.laid_unicode_utf8_acceptRanges), ("bailiwick/keccak.constants", Rows.laid_bailiwick_keccak_constants), ("bailiwick/keccak.places", Rows.laid_bailiwick_keccak_places), ("bailiwick/keccak.turns", Rows.laid_bailiwick_keccak_turns), ("internal/strconv.uint64pow10", Rows.laid_internal_strconv_uint64pow10), ("math/bits.deBruijn32tab", Rows.laid_math_bits_deBruijn32tab), ("math/bits.deBruijn64tab", Rows.laid_math_bits_deBruijn64tab), ("bailiwick/sha.begun", Rows.laid_bailiwick_sha_begun), ("bailiwick/sha.k", Rows.laid_bailiwick_sha_k), ("bailiwick/ripemd.begun", Rows.laid_bailiwick_ripemd_begun), ("bailiwick/ripemd.first", Rows.laid_bailiwick_ripemd_first), ("bailiwick/ripemd.second", Rows.laid_bailiwick_ripemd_second), ("bailiwick/ripemd.turns", Rows.laid_bailiwick_ripemd_turns), ("bailiwick/ripemd.rho", Rows.laid_bailiwick_ripemd_rho), ("strings.asciiSpace", Rows.laid_strings_asciiSpace), ("unicode.White_Space", Rows.laid_unicode_White_Space), ("bailiwick/blake.rows", Rows.laid_bailiwick_blake_rows), ("bailiwick/blake.lines", Rows.laid_bailiwick_blake_lines)]
def tiedK : List LaidKind := [.data, .data, .data, .data, .data, .data, .data, .data, .data, .data, .data, .data, .data, .data, .data, .listed, .data, .data]
theorem knot_words : Tryz.prog.worded (varsWordLater true) = true ∧ Tryz.prog.worded (varsWordLater !true) = false ∧ Tryz.prog.worded rootWordLater = true ∧ tied.map (fun x => Tryz.prog.kindOfLater x.1) = tiedK.map some ∧ (Tryz.prog.funcNamed "gosem.cut.vars").isSome = true := ⟨by kernel_rfl, by kernel_rfl, by kernel_rfl, by kernel_rfl, by kernel_rfl⟩
theorem knot_all : (tied.all fun x => x.2.handleName?.isNone) = true := by kernel_rfl
end Go.Proofs.YtkmpbmlcmglmnaaGreatDoor
