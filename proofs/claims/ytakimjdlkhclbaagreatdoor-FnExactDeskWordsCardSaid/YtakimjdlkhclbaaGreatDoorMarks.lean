/- A call of markStringS over a writable slice of n strings from the number k0 on, where k0 + n is at most 1000 and k0 positive, lays the marks into it and nothing else turns. -/
import Derived.Test.YtakimjdlkhclbaaGreatDoorMark
import Derived.Test.YtakimjdlkhclbaaGreatDoorEq
import Derived.Maps.AppendAt
import Derived.Deep.RegionHeld3
namespace Go.Proofs.YtakimjdlkhclbaaGreatDoor
open Go.RowKit

/-- Of a row of n strings in block b the first k bear marks from k0 on; all that lay in w but that row is as it was. -/
structure Marked (k0 n b : Nat) (w : World) (k : Nat) (wr : World) : Prop where
  strs : ∀ j, j < n → ∃ s, wr.cell? ⟨b, j, none⟩ = some (.string s)
  done : ∀ j, j < k → j < n → wr.cell? ⟨b, j, none⟩ = some (.string (markOf (k0 + j)))
  free : ∀ j, wr.frozen? ⟨b, j, none⟩ = false
  lt : b < wr.heap.size
  grown : w.grownBy wr (some b)

theorem Marked.below {k0 n b k : Nat} {w wr w1 : World} (h : Marked k0 n b w k wr) (hb : Below wr.heap.size wr w1) : Marked k0 n b w k w1 :=
  { strs := fun j hj => by obtain ⟨s, hs⟩ := h.strs j hj; exact ⟨s, (hb.cell (p := ⟨b, j, none⟩) h.lt).trans hs⟩
    done := fun j hj hn => (hb.cell (p := ⟨b, j, none⟩) h.lt).trans (h.done j hj hn)
    free := fun j => (hb.frozen (p := ⟨b, j, none⟩) h.lt).trans (h.free j)
    lt := Nat.lt_of_lt_of_le h.lt hb.size
    grown := h.grown.trans ⟨hb.os, hb.tape, hb.output, hb.size, fun i hi _ => hb.block i hi⟩ }

theorem Marked.store {k0 n b k : Nat} {w wr : World} (h : Marked k0 n b w k wr) (_hk : k < n) : Marked k0 n b w (k + 1) (wr.setCell ⟨b, k, none⟩ (.string (markOf (k0 + k)))) :=
  { strs := fun j hj => by
      by_cases e : k = j
      · subst e
        obtain ⟨s, hs⟩ := h.strs k hj
        exact ⟨_, World.cell?_setCell_same _ _ _ hs⟩
      · obtain ⟨s, hs⟩ := h.strs j hj
        exact ⟨s, (World.cell?_setCell_other _ _ _ _ (by intro h; cases h; exact e rfl)).trans hs⟩
    done := fun j hj hn => by
      by_cases e : k = j
      · subst e
        obtain ⟨s, hs⟩ := h.strs k hn
        exact World.cell?_setCell_same _ _ _ hs
      · exact (World.cell?_setCell_other _ _ _ _ (by intro h; cases h; exact e rfl)).trans (h.done j (by omega) hn)
    free := fun j => by rw [World.frozen?_setCell]; exact h.free j
    lt := by simpa [World.setCell] using h.lt
    grown := h.grown.trans ⟨rfl, rfl, rfl, by simp [World.setCell], fun i _ hi => Below.heap_setCell _ _ _ _ (fun e => hi (by rw [e]))⟩ }

def MarksPost (k0 n b : Nat) (w : World) (e : Ending) (w' : World) : Prop := e = .returned (.int .i64 ((k0 + n : Nat) : Int)) ∧ Marked k0 n b w n w'

set_option maxRecDepth 100000 in
set_option maxHeartbeats 1000000 in
theorem marks_any (k0 n b c : Nat) (hk0 : 0 < k0) (hk : k0 + n ≤ 1000) (w : World) (h0 : Marked k0 n b w 0 w) :
    Calls Tryz.prog 7 #[.slice (some ⟨b, 0, none⟩) n c, .int .i64 k0] w (MarksPost k0 n b w) := by
  go_enter Tryz.func7, Tryz.ntmps7
  go_wp2
  go_loopw [1, 5] (fun q i wr => ∃ k : Nat, k ≤ n ∧ i = .int .i64 k ∧ q = .int .i64 ((k0 + k : Nat) : Int) ∧ Marked k0 n b w k wr) (fun _ i _ => n - (intOf i).toNat)
  case atStart => exact ⟨0, Nat.zero_le _, rfl, rfl, h0⟩
  case round =>
    obtain ⟨k, hkn, rfl, rfl, hM⟩ := hrel
    by_cases hlt : k < n
    · have hi1 : (k : Int) < n := by omega
      have hi0 : (0 : Int) ≤ k := by omega
      go_wp2_with fail
      refine (mark_any (k0 + k) (by omega) (by omega) _).mono ?_
      rintro e w1 ⟨rfl, hb⟩
      have hM1 := hM.below hb
      obtain ⟨s0, hs0⟩ := hM1.strs k hlt
      have hf0 := hM1.free k
      go_wp2
      go_roundw
      case rel => exact ⟨k + 1, by omega, by go_num, by go_num, hM1.store hlt⟩
      case measure => simp [intOf]; omega
    · obtain rfl : k = n := by omega
      go_wp2
      go_ret
      exact ⟨rfl, hM⟩
end Go.Proofs.YtakimjdlkhclbaaGreatDoor
