/- The closed facts of the row of FnExactDeskWords, in several theorems, since all of them in one need more memory than a Lean process may have. No condition. -/
import Derived.Test.YtakimjdlkhclbaaGreatDoorRows
import Derived.JoinedOf
import Derived.KernelRfl
namespace Go.Proofs.YtakimjdlkhclbaaGreatDoor
open Go
theorem fact_wf : Rows.fnExactDeskWordsRow.wf (OpenSpec.ofChange Rows.fnExactDeskWordsSpec) = true := by kernel_rfl
theorem fact_laid : laidOutB Tryz.checked.prog = true := by kernel_rfl
theorem fact_maps : mapsRowed Tryz.checked.prog = true := by kernel_rfl
theorem fact_inPlace : (Rows.fnExactDeskWordsRow.inPlace == Program.inPlace Tryz.checked.prog 3) = true := by kernel_rfl
theorem fact_unf : (Rows.fnExactDeskWordsRow.unfollowed == Program.unfollowed Tryz.checked.prog 3) = true := by kernel_rfl
theorem fact_rec : (Rows.fnExactDeskWordsRow.recurses == Program.recurses Tryz.checked.prog 3) = true := by kernel_rfl
theorem fact_named : (Rows.fnExactDeskWordsRow.named == Program.varsNamed Tryz.checked.prog 3) = true := by kernel_rfl
theorem fact_plain : (Rows.fnExactDeskWordsRow.plainKeys == Program.plainKeys Tryz.checked.prog) = true := by kernel_rfl
theorem fact_heard : Program.stopsHeard Tryz.checked.prog = true := by kernel_rfl
theorem fact_enter : Program.mayEnter Tryz.checked.prog = true := by kernel_rfl
theorem fact_lift : (Rows.fnExactDeskWordsRow.lifted == Program.liftsFinal Tryz.checked.prog) = true := by kernel_rfl
theorem row_closed : joinedFacts Tryz.checked.prog 3 Tryz.f3 Rows.fnExactDeskWordsSpec Rows.fnExactDeskWordsRow = true := by
  unfold joinedFacts
  simp only [Bool.and_eq_true]
  repeat' apply And.intro
  all_goals first
    | with_reducible exact fact_wf
    | with_reducible exact fact_laid
    | with_reducible exact fact_maps
    | with_reducible exact fact_inPlace
    | with_reducible exact fact_unf
    | with_reducible exact fact_rec
    | with_reducible exact fact_named
    | with_reducible exact fact_plain
    | with_reducible exact fact_heard
    | with_reducible exact fact_enter
    | with_reducible exact fact_lift
    | kernel_rfl
theorem row_named : Tryz.checked.prog.funcNamed "loop.example/g01081/laws.FnExactDeskWords" = some 3 := by kernel_rfl
end Go.Proofs.YtakimjdlkhclbaaGreatDoor
