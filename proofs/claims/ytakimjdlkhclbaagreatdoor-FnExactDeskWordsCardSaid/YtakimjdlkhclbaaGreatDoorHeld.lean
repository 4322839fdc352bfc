/- A call of heldStringS over a slice that holds the marks from k0 on, where k0 + n is at most 1000 and k0 positive, returns k0 + n; nothing that lay before has turned. -/
import Derived.Test.YtakimjdlkhclbaaGreatDoorMarks
namespace Go.Proofs.YtakimjdlkhclbaaGreatDoor
open Go.RowKit

def HeldPost (k0 n : Nat) (w : World) (e : Ending) (w' : World) : Prop := e = .returned (.int .i64 ((k0 + n : Nat) : Int)) ∧ Below w.heap.size w w'

set_option maxRecDepth 100000 in
set_option maxHeartbeats 1000000 in
theorem held_any (k0 n b c : Nat) (hk0 : 0 < k0) (hk : k0 + n ≤ 1000) (w : World) (hb : b < w.heap.size) (h0 : ∀ j, j < n → w.cell? ⟨b, j, none⟩ = some (.string (markOf (k0 + j)))) :
    Calls Tryz.prog 8 #[.slice (some ⟨b, 0, none⟩) n c, .int .i64 k0] w (HeldPost k0 n w) := by
  go_enter Tryz.func8, Tryz.ntmps8
  go_wp2
  go_loopw [1, 5] (fun q i wr => ∃ k : Nat, k ≤ n ∧ i = .int .i64 k ∧ q = .int .i64 ((k0 + k : Nat) : Int) ∧ Below w.heap.size w wr) (fun _ i _ => n - (intOf i).toNat)
  case atStart => exact ⟨0, Nat.zero_le _, rfl, rfl, Below.refl _ _⟩
  case round =>
    obtain ⟨k, hkn, rfl, rfl, hM⟩ := hrel
    by_cases hlt : k < n
    · have hi1 : (k : Int) < n := by omega
      have hi0 : (0 : Int) ≤ k := by omega
      have hc : wr.cell? ⟨b, k, none⟩ = some (.string (markOf (k0 + k))) := (hM.cell (p := ⟨b, k, none⟩) hb).trans (h0 k hlt)
      have hbr : b < wr.heap.size := Nat.lt_of_lt_of_le hb hM.size
      go_wp2_with fail
      go_region_held3 (fun w' => Below w.heap.size w w' ∧ w'.cell? ⟨b, k, none⟩ = some (.string (markOf (k0 + k))) ∧ b < w'.heap.size)
        ((refine ⟨?_, ?_, ?_⟩ <;> first | assumption | exact hM.drew | (simp; assumption)))
        (first | (go_at_call 12; refine (mark_any (k0 + k) (by omega) (by omega) _).mono ?_; rintro e w1 ⟨rfl, hb1⟩; have hM1 : Below w.heap.size w w1 := hM.drew.trans (hb1.mono (by simpa using hM.size)); have hc1 : w1.cell? ⟨b, k, none⟩ = some (.string (markOf (k0 + k))) := (hb1.cell (p := ⟨b, k, none⟩) (by simpa using hbr)).trans (by simpa using hc); have hb2 : b < w1.heap.size := Nat.lt_of_lt_of_le (by simpa using hbr) hb1.size))
      all_goals go_wp2
      all_goals go_roundw
      all_goals first
        | (case rel => exact ⟨k + 1, by omega, by go_num, by go_num, by assumption⟩)
        | (simp [intOf]; omega)
    · obtain rfl : k = n := by omega
      go_wp2
      go_ret
      exact ⟨rfl, hM⟩
end Go.Proofs.YtakimjdlkhclbaaGreatDoor
