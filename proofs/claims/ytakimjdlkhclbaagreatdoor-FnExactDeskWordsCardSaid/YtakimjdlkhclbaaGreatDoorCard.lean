/- The law FnExactDeskWords returns true whatever the memory and the schedule, with the listed variables as the program's text lays them and no other condition: the tied card over the row. -/
import Derived.Test.YtakimjdlkhclbaaGreatDoorRow
import Derived.Test.YtakimjdlkhclbaaGreatDoorOwn
import Derived.Test.YtakimjdlkhclbaaGreatDoorCards
import Derived.SevenTiedAt
namespace Go.Proofs.YtakimjdlkhclbaaGreatDoor

/-- A tied card over a row whose call may start goroutines. -/
theorem tied_goes (Lk : Looks) {p : Pinned} {s : OpenSpec} {c : OpenClaim} (kinds : List LaidKind) (tests : Bool) (har : Bool × String) (lk : Bool)
    (hc : c.holds p s) (hw : c.wfByText s = true) (htie : c.laidByTextAt Lk p kinds tests)
    (hst : c.start = .entering) (hnb : c.noBlocks = false ∧ c.again = false) (hm : p.checked.prog.mainIs = some (har.1, har.2.toList)) (hn : (!har.1 && har.2.isEmpty && !lk) = false)
    (hl : ∀ f fn, p.checked.prog.funcNamed c.func = some f → p.checked.prog.funcs[f]? = some fn → lk = p.checked.prog.looks [] ∧ ∀ (j : Nat) t, fn.params[j]? = some t → p.checked.prog.wantsStandIn t = false)
    (hg : true = c.goesBy p.checked.prog) :
    Claim7.holds p (.plain s) { stood := { row := c, standIns := [], harness := har, looks := lk }, kinds := [], alts := [], goes := true, laidByText := true, laidKinds := kinds, laidTests := tests, laidLooks := Lk } := by
  have h6 : Claim7.isSixth { stood := { row := c, standIns := [], harness := har, looks := lk }, kinds := [] } = false := by simpa [Claim7.isSixth] using hn
  exact ⟨Claim7.tied_new_at Lk kinds tests (Claim7.new_of_sixth hc har lk hst hnb hm h6 hl) hw, fun D hD => (by cases hD), htie, (fun h => by cases h), hg⟩

theorem card_wf : Rows.fnExactDeskWordsRow.wfByText (OpenSpec.ofChange Rows.fnExactDeskWordsSpec) = true := by kernel_rfl
theorem card_main : Tryz.pinned.checked.prog.mainIs = some (true, "1c52c96c7fccd737c2bcd7ecce07c5b93e371634d7206378ab69c6e07c0e44ce".toList) := by kernel_rfl
theorem card_named : Tryz.pinned.checked.prog.funcNamed Rows.fnExactDeskWordsRow.func = some 3 := by kernel_rfl
theorem card_looks : true = Tryz.pinned.checked.prog.looks [] := by kernel_rfl
theorem body_goes : Func.goes Tryz.f413 = true := by kernel_rfl
/-- Some body holds a go statement. -/
theorem some_goes : Tryz.pinned.checked.prog.funcs.any Func.goes = true := by
  have h : Tryz.pinned.checked.prog.funcs[413]? = some Tryz.f413 := Tryz.func413
  obtain ⟨h1, h2⟩ := Array.getElem?_eq_some_iff.1 h
  rw [Array.any_eq_true]
  exact ⟨_, h1, by rw [h2]; exact body_goes⟩
theorem card_unf : Tryz.pinned.checked.prog.unfollowed 3 = true := (beq_iff_eq.1 (show (true == Program.unfollowed Tryz.pinned.checked.prog 3) = true from fact_unf)).symm
theorem card_goes : true = Rows.fnExactDeskWordsRow.goesBy Tryz.pinned.checked.prog := by
  unfold OpenClaim.goesBy Program.goesAt Program.goesFrom
  rw [card_named]
  simp only [Option.any_some]
  unfold Program.goes
  rw [card_unf, some_goes]
  simp
theorem card_start : Rows.fnExactDeskWordsRow.start = .entering := rfl
theorem card_blocks : Rows.fnExactDeskWordsRow.noBlocks = false ∧ Rows.fnExactDeskWordsRow.again = false := ⟨rfl, rfl⟩
theorem card_hl : ∀ f fn, Tryz.pinned.checked.prog.funcNamed Rows.fnExactDeskWordsRow.func = some f → Tryz.pinned.checked.prog.funcs[f]? = some fn → true = Tryz.pinned.checked.prog.looks [] ∧ ∀ (j : Nat) t, fn.params[j]? = some t → Tryz.pinned.checked.prog.wantsStandIn t = false := by
  intro f fn hf hfn
  obtain rfl : f = 3 := Option.some.inj (card_named.symm.trans hf) |>.symm
  obtain rfl : fn = Tryz.f3 := (Option.some.inj (Tryz.func3.symm.trans hfn)).symm
  exact ⟨card_looks, fun j t ht => by
    rw [Tryz.params3] at ht
    simp at ht⟩

/-- The statement: the tied card. -/
theorem fnExactDeskWords_holds : Rows.FnExactDeskWordsCardSaid :=
  tied_goes (p := Tryz.pinned) (s := OpenSpec.ofChange Rows.fnExactDeskWordsSpec) (c := Rows.fnExactDeskWordsRow) .later [.data, .data, .data, .pinned, .data, .sentinel, .sentinel, .sentinel, .sentinel] true (true, "1c52c96c7fccd737c2bcd7ecce07c5b93e371634d7206378ab69c6e07c0e44ce") true
    row_holds card_wf fnExactDeskWords_row_tie card_start card_blocks card_main rfl card_hl card_goes
#print axioms fnExactDeskWords_holds
end Go.Proofs.YtakimjdlkhclbaaGreatDoor
