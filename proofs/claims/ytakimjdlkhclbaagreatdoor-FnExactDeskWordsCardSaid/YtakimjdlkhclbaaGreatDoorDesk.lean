/- A call of the program's DeskWords returns a new slice of the words in rising order, whatever the world; nothing that lay before has turned. -/
import Derived.Test.YtakimjdlkhclbaaGreatDoorIter
import Derived.Test.YtakimjdlkhclbaaGreatDoorCmd
import Derived.Test.YtakimjdlkhclbaaGreatDoorSpec
namespace Go.Proofs.YtakimjdlkhclbaaGreatDoor
open Go.RowKit Go.Maps Go.Sort Go.Shelf

/-- What a call of DeskWords leaves: a new slice of the words in their order. -/
def DeskPost (w : World) (e : Ending) (w' : World) : Prop := ∃ v, e = .returned v ∧ w'.ownsRow w.heap.size 9 1 v 27 wordsV ∧ RowKit.Below w.heap.size w w'

set_option maxRecDepth 100000 in
set_option maxHeartbeats 1000000 in
theorem desk_any (w : World) : Calls Tryz.prog 5 #[] w (DeskPost w) := by
  refine (callsIn_wide (n := 6)).1 ?_
  have hfK : Fence.wide.fn 10 := trivial
  have hfS : Fence.wide.fn 9 := trivial
  have hfC : Fence.wide.fn 11 := trivial
  refine callsIn_of_wp Tryz.func5 rfl trivial ?_ rfl
  simp only [Tryz.ntmps5, List.size_toArray, List.length_nil, Nat.reduceSub, Array.replicate_succ, Array.replicate_zero, List.push_toArray, List.append_toArray, List.nil_append, List.cons_append]
  gi_wp2_with (first
    | (gi_at_call 11; refine (callsIn_wide.2 (commands_any _)).mono ?_; rintro e w1 ⟨rfl, hown, hb⟩)
    | (gi_at_call 10; refine (Tryz.maps_Keys_10 _ _).mono ?_; rintro e w' ⟨rfl, rfl⟩)
    | (gi_at_call 9; refine (Tryz.slices_Sorted_keys_9_10 _ 27 cmdD R0 _ (by assumption) (by rw [cmdD_size]; unfold maxLen; omega) (by rw [cmdD_size]; omega)).mono ?_; rintro e w' ⟨v, ss, rfl, hS, hrow, hnil, hb2⟩))
  go_ret
  have hsort := sort_eq (hS.trans cmdD_keys) tab_perm words_rise
  have hlen : ss.length = 27 := by
    have := (hS.trans (cmdD_keys.trans tab_perm)).length_eq
    rw [this]
    rfl
  rw [hsort, hlen] at hrow
  refine ⟨v, rfl, ownsRow_base_a hrow (by simp; have := hb.size; omega), (hb.alloc hb.size _).trans (hb2.mono (by simp; have := hb.size; omega))⟩
end Go.Proofs.YtakimjdlkhclbaaGreatDoor
