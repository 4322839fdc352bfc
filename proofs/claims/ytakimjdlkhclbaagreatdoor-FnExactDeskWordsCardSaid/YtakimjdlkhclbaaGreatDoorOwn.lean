/- The variables that the row of FnExactDeskWords lists hold what the program's text lays, as the given Tie says; here in several theorems, since the given one theorem needs more memory than a Lean process may have. No condition. -/
import Derived.Test.YtakimjdlkhclbaaGreatDoorRows
import Derived.LaidByTextLater
import Derived.LaidOnce
import Derived.SevenTiedAt
namespace Go.Proofs.YtakimjdlkhclbaaGreatDoor
open Go
theorem pin_laid_unicode_utf8_first : Tryz.pinned.checked.prog.pinnedFits "unicode/utf8.first" = true := by kernel_rfl
theorem noOwnUnsafe : Tryz.pinned.checked.prog.headLifts.contains "ownunsafe" = false := by kernel_rfl
theorem fits1 : Tryz.pinned.checked.prog.listedFits [("internal/strconv.uint64pow10", Rows.laid_internal_strconv_uint64pow10), ("math/bits.deBruijn32tab", Rows.laid_math_bits_deBruijn32tab), ("math/bits.deBruijn64tab", Rows.laid_math_bits_deBruijn64tab), ("unicode/utf8.first", Rows.laid_unicode_utf8_first), ("unicode/utf8.acceptRanges", Rows.laid_unicode_utf8_acceptRanges), ("loop.example/g01081/impl.errTerminal", Rows.laid_loop_example_g01081_impl_errTerminal), ("loop.example/g01081/impl.errNoSpace", Rows.laid_loop_example_g01081_impl_errNoSpace), ("strconv.ErrSyntax", Rows.laid_strconv_ErrSyntax), ("strconv.ErrRange", Rows.laid_strconv_ErrRange)] = true := by
  unfold Program.listedFits
  rw [noOwnUnsafe]
  kernel_rfl
/-- The listed variables that are not held against a constant. -/
def tieLaid : List (String × DataW Unit) := [("internal/strconv.uint64pow10", Rows.laid_internal_strconv_uint64pow10), ("math/bits.deBruijn32tab", Rows.laid_math_bits_deBruijn32tab), ("math/bits.deBruijn64tab", Rows.laid_math_bits_deBruijn64tab), ("unicode/utf8.acceptRanges", Rows.laid_unicode_utf8_acceptRanges), ("loop.example/g01081/impl.errTerminal", Rows.laid_loop_example_g01081_impl_errTerminal), ("loop.example/g01081/impl.errNoSpace", Rows.laid_loop_example_g01081_impl_errNoSpace), ("strconv.ErrSyntax", Rows.laid_strconv_ErrSyntax), ("strconv.ErrRange", Rows.laid_strconv_ErrRange)]
def tieKinds : List LaidKind := [.data, .data, .data, .data, .sentinel, .sentinel, .sentinel, .sentinel]
theorem tie_worded : Tryz.prog.worded (varsWordLater true) = true := by kernel_rfl
theorem tie_worded2 : Tryz.prog.worded (varsWordLater !true) = false := by kernel_rfl
theorem tie_root : Tryz.prog.worded rootWordLater = true := by kernel_rfl
theorem tie_kinds : tieLaid.map (fun x => Tryz.prog.kindOfLater x.1) = tieKinds.map some := by kernel_rfl
theorem tie_vars : (Tryz.prog.funcNamed "gosem.cut.vars").isSome = true := by kernel_rfl
theorem tie_names : varsNamedLaterB Tryz.prog (varsId Tryz.prog) tieLaid = true := by kernel_rfl
theorem tie_run : ∀ os tape, doorLeaves Tryz.prog 400 8 300 tieLaid os tape = some (tieLaid.filter fun x => x.2.handleName?.isNone, (funcsListed tieLaid).map (·.2.funcsOut)) := fun _ _ => by kernel_rfl
theorem tie : Tryz.prog.laidByTextLater tieLaid tieKinds true :=
  Program.laidByTextLater_by_one 400 8 300 tie_worded tie_worded2 tie_root tie_kinds tie_vars tie_names tie_run
theorem fnExactDeskWords_row_tie : Rows.fnExactDeskWordsRow.laidByTextAt .later Tryz.pinned [.data, .data, .data, .pinned, .data, .sentinel, .sentinel, .sentinel, .sentinel] true :=
  OpenClaim.laidByTextAt_pinned rfl rfl tie rfl rfl rfl rfl (fun y hy _e => by
    simp only [Rows.fnExactDeskWordsRow, List.zip_cons_cons, List.zip_nil_right, List.mem_cons, List.mem_nil_iff, or_false] at hy
    rcases hy with rfl | rfl | rfl | rfl | rfl | rfl | rfl | rfl | rfl
    · cases _e
    · cases _e
    · cases _e
    · exact ⟨pin_laid_unicode_utf8_first, by kernel_rfl⟩
    · cases _e
    · cases _e
    · cases _e
    · cases _e
    · cases _e) fits1
end Go.Proofs.YtakimjdlkhclbaaGreatDoor
