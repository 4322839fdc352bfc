/- The law FnExactDeskWords returns true whatever the memory and the schedule, with the listed variables as the program's text lays them and no other condition: the row's statement. -/
import Derived.Test.YtakimjdlkhclbaaGreatDoorLaw
import Derived.Test.YtakimjdlkhclbaaGreatDoorFacts
import Derived.ProofKit
import Derived.OpenShut
import Derived.RowKitTokens
import Derived.LaidMore
import Derived.Lay
import Derived.Stop.Joined
import Derived.Conc.Holds
namespace Go.Proofs.YtakimjdlkhclbaaGreatDoor
open Go.ChangeShapes Go.WideShapes Go.ChangeAt Go.RowKit

theorem own : ownKnob Tryz.prog.godebug = none := by kernel_rfl
theorem gTerminal : Tryz.prog.globalNamed "loop.example/g01081/impl.errTerminal" = some 0 := by kernel_rfl
theorem gNoSpace : Tryz.prog.globalNamed "loop.example/g01081/impl.errNoSpace" = some 1 := by kernel_rfl
theorem tTerminal : (Tryz.prog.globals[0]?).map (·.type) = some 238 := by kernel_rfl
theorem tNoSpace : (Tryz.prog.globals[1]?).map (·.type) = some 238 := by kernel_rfl

/-- Who returns alone leaves nobody behind. -/
theorem leaving_of_alone {P : Program} {m : Machine} {w : World} {t : Trace} (h : aloneAtReturn P m w t) : leavingAtReturn P m w t := by
  obtain ⟨⟨h1, h2⟩, h3, h4⟩ := h
  refine ⟨h3, ⟨fun g hg => ⟨0, ?_⟩, h2⟩, h4⟩
  have h5 := List.all_eq_true.1 h1 g hg
  show g.status = .finished
  simpa using h5

theorem leavingWide_of_handed {a : Assume} {C : Checked} {os : Os} {f : FuncId} {r : Reach} {Pre : World → Array Value → Prop} {Post : World → Array Value → Value → World → Prop}
    (h : ReturnsInHanded a C os f r Pre Post) : ReturnsInLeavingWide a C os f r Pre Post := fun enter =>
  ReturnsInOpen.mono (fun _ _ _ x => leaving_of_alone x) (fun _ x => x) (h enter)

/-- A variable's cells are as they were. -/
theorem var_below {W W' : World} (hb : Below W.heap.size W W') {P : Program} {n : String} {cs : Array Value} (h : W.var? P n = some cs) : W'.var? P n = some cs := by
  unfold World.var? at h ⊢
  cases hg : P.globalNamed n with
  | none => rw [hg] at h; cases h
  | some g =>
    rw [hg] at h
    simp only [Option.bind_some] at h ⊢
    have hlt : g < W.heap.size := by
      cases hk : W.heap[g]? with
      | none => rw [hk] at h; cases h
      | some o => exact (Array.getElem?_eq_some_iff.1 hk).1
    rw [hb.block g hlt]
    exact h

/-- The start that fits: all listed variables laid, no argument. -/
noncomputable def startW (os : Os) : World := (World.laidAll Tryz.prog os Rows.fnExactDeskWordsRow.laid).forCall (fun _ _ => 0) ⟨#[], #[], []⟩
set_option maxRecDepth 100000 in
theorem start_shaped (os : Os) : (startW os).Shaped Tryz.prog := World.shaped_of_ZipB (by kernel_rfl) (by kernel_rfl)
set_option maxRecDepth 100000 in
theorem start_ok (os : Os) : Input.okWideB Tryz.prog (startW os) 3 ⟨#[], #[], []⟩ = true := by kernel_rfl
set_option maxRecDepth 100000 in
theorem start_pre {H : Type} {enc : TypeId × Value → H} (os : Os) : Rows.fnExactDeskWordsSpec.preB enc Tryz.prog Tryz.f3 [] false (startW os).memory #[] 8 = true := by kernel_rfl
set_option maxRecDepth 100000 in
theorem start_sized {H : Type} {enc : TypeId × Value → H} (os : Os) : Rows.fnExactDeskWordsSpec.sizedB enc Tryz.prog Tryz.f3 false (startW os).memory #[] 8 = true := by kernel_rfl
set_option maxRecDepth 100000 in
theorem start_laid (os : Os) : laidMetH Tryz.prog Rows.fnExactDeskWordsRow.laid (startW os).memory := by
  rw [MakeChecks.laidMetH_plain _ _ _ (by kernel_rfl)]
  exact laidMet_laidAll _ (by kernel_rfl) (by kernel_rfl)

set_option maxRecDepth 100000 in
theorem lifted (os : Os) (started : os.Started) (H : Type) (enc : TypeId × Value → H) :
    ReturnsInHanded {} Tryz.checked os 3 .any (fun w args => (Rows.fnExactDeskWordsSpec.pre enc Tryz.prog Tryz.f3 [] false w args ∧ laidMetH Tryz.prog Rows.fnExactDeskWordsRow.laid w) ∧ sizedMet enc Tryz.prog Tryz.f3 (OpenSpec.ofChange Rows.fnExactDeskWordsSpec) false w args)
      (Rows.fnExactDeskWordsSpec.post enc Tryz.prog Tryz.f3 false true false false) := by
  refine returnsInHanded_of_change_and (C := Tryz.checked) (X := fun w _ => laidMetH Tryz.prog Rows.fnExactDeskWordsRow.laid w) (fun _ _ _ hh h => h.of_heap hh) own started (by kernel_rfl) Tryz.func3
    (ChangeSpec.witness_shaped (enc := enc) (C := Tryz.checked) (os := os) (X := fun w _ => laidMetH Tryz.prog Rows.fnExactDeskWordsRow.laid w) false (World.laidAll Tryz.prog os Rows.fnExactDeskWordsRow.laid) #[] 8 (World.laidAll_os _ _ _)
      (start_shaped os) (start_ok os) (start_pre os) (start_sized os) (start_laid os)) ?_
  intro W base args ds gs before _ hW _ _ _ _
  have hW' := hW
  obtain ⟨p, q, hA0, hV0, rfl, _, _⟩ := hW
  have hA : DataW.TrodAll enc Tryz.prog W 0 (fun _ => true) true Tryz.f3.params.toList args.toList ds p := hA0
  have hV : DataW.TrodVars enc Tryz.prog W (fun _ => true) ["loop.example/g01081/impl.errTerminal", "loop.example/g01081/impl.errNoSpace"] gs q := hV0
  rw [Tryz.params3] at hA
  obtain ⟨hargs, rfl, rfl⟩ := trodAll_nil hA
  obtain rfl : args = #[] := by cases args; simp_all
  obtain ⟨g0, t0, cs0, f0, d0, p0, g1, t1, cs1, f1, d1, p1, rfl, a1, a2, a3, a4, b1, b2, b3, b4, rfl⟩ := trodVars_two hV
  obtain rfl := Option.some.inj (gTerminal.symm.trans a1)
  obtain rfl := Option.some.inj (tTerminal.symm.trans a2)
  obtain rfl := Option.some.inj (gNoSpace.symm.trans b1)
  obtain rfl := Option.some.inj (tNoSpace.symm.trans b2)
  obtain ⟨x0, rfl, i0, rfl, rfl, _⟩ := token_of a1 Tryz.underlying238 a3 a4
  obtain ⟨x1, rfl, i1, rfl, rfl, _⟩ := token_of b1 Tryz.underlying238 b3 b4
  clear hA0 hV0 hV a4 b4
  refine (law_any W).mono fun e W' ⟨he, hb⟩ => ?_
  subst he
  have hvars : ∀ sp : Nat → Bool, ∃ pv, DataW.TrodVars enc Tryz.prog W' sp ["loop.example/g01081/impl.errTerminal", "loop.example/g01081/impl.errNoSpace"] [tok enc x0, tok enc x1] pv := fun sp =>
    ⟨_, _, _, _, 1, _, _, a1, a2, var_below hb a3, trod_held Tryz.underlying238 i0 0, trodVars_mk1 b1 b2 (var_below hb b3) (trod_held Tryz.underlying238 i1 0), rfl⟩
  obtain ⟨pv, hpv⟩ := hvars (fun b => decide (b < W.heap.size))
  exact ⟨_, rfl, _, _, _, [], [], pv, hW', trodAll_mk1 (shut_bool Tryz.underlying4 _), trodAll_mk0, hpv, hb.frame _, fun h => by cases h⟩

theorem row_holds : Rows.FnExactDeskWordsSaid :=
  OpenClaim.holds_of_wide_leaving 3 Tryz.f3 rfl rfl rfl rfl rfl rfl rfl ⟨rfl, rfl, rfl, rfl, rfl⟩ rfl rfl rfl rfl rfl row_named Tryz.func3 row_closed
    (of_decide_eq_true (by kernel_rfl)) (by unfold Func.isWrapper; first | (rw [if_pos (by decide +kernel)]; kernel_rfl) | (rw [if_neg (by decide +kernel)]; exact ⟨rfl, rfl⟩))
    (fun os started H enc _ => leavingWide_of_handed (lifted os started H enc))
end Go.Proofs.YtakimjdlkhclbaaGreatDoor
