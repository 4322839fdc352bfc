/- A call of the reference's DeskWords returns a new slice of the words, whatever the world. -/
import Derived.Test.YtakimjdlkhclbaaGreatDoorEq
import Derived.Test.YtakimjdlkhclbaaGreatDoorWords
import Derived.Shelf.SortM.Plain
namespace Go.Proofs.YtakimjdlkhclbaaGreatDoor
open Go.RowKit

/-- The words as the cells of a row. -/
def wordsV : List Value := wordsB.map Go.Proofs.encStr

def SpecPost (w : World) (e : Ending) (w' : World) : Prop := e = .returned (.slice (some ⟨w.heap.size, 0, none⟩) 27 27) ∧ w' = w.alloc (.cells wordsV.toArray 9)

set_option maxRecDepth 100000 in
set_option maxHeartbeats 1000000 in
theorem spec_any (w : World) : Calls Tryz.prog 4 #[] w (SpecPost w) := by
  go_enter Tryz.func4, Tryz.ntmps4
  go_wp2
  go_ret
  refine ⟨rfl, ?_⟩
  rfl
end Go.Proofs.YtakimjdlkhclbaaGreatDoor
