/- A call of eqStringS at two slices that hold the same strings, at most 1000, returns true; nothing has turned but the tape. -/
import Derived.Test.YtakimjdlkhclbaaGreatDoorProg
import Derived.WalkKit
import Derived.WalkSpells
import Derived.WalkLawsBesides
import Derived.Lib.Hide
import Derived.Deep.QuietTactic
import Derived.BigQuiet
namespace Go.Proofs.YtakimjdlkhclbaaGreatDoor
open Go.RowKit

/-- Block b of w holds these strings from its head on. -/
def HoldsS (w : World) (b : Nat) (ss : List ByteArray) : Prop := ∀ j, j < ss.length → w.cell? ⟨b, j, none⟩ = some (.string (ss.getD j ByteArray.empty))

def EqPost (w : World) (e : Ending) (w' : World) : Prop := e = .returned (.bool true) ∧ ∃ n, w' = w.drewN n

set_option maxRecDepth 100000 in
set_option maxHeartbeats 1000000 in
theorem eq_yes (b1 b2 c1 c2 : Nat) (ss : List ByteArray) (w : World) (hn : ss.length ≤ 1000) (h1 : HoldsS w b1 ss) (h2 : HoldsS w b2 ss) :
    Calls Tryz.prog 6 #[.slice (some ⟨b1, 0, none⟩) ss.length c1, .slice (some ⟨b2, 0, none⟩) ss.length c2] w (EqPost w) := by
  obtain ⟨n, hN⟩ : ∃ n, n = ss.length := ⟨_, rfl⟩
  rw [← hN]
  have HN := Lib.hid hN
  have hn1 : n ≤ 1000 := by omega
  clear hN
  go_enter Tryz.func6, Tryz.ntmps6
  go_wp2
  go_loopw [5] (fun i wr => ∃ k : Nat, k ≤ n ∧ i = .int .i64 k ∧ ∃ m, wr = w.drewN m) (fun i _ => n - (intOf i).toNat)
  case atStart => exact ⟨0, Nat.zero_le _, rfl, 0, rfl⟩
  case round =>
    obtain ⟨k, hk, rfl, m, rfl⟩ := hrel
    by_cases hlt : k < n
    · obtain ⟨s, hs⟩ : ∃ s, s = ss.getD k ByteArray.empty := ⟨_, rfl⟩
      have g1 : w.cell? ⟨b1, k, none⟩ = some (.string s) := by rw [hs]; exact h1 k (by have := HN.out; omega)
      have g2 : w.cell? ⟨b2, k, none⟩ = some (.string s) := by rw [hs]; exact h2 k (by have := HN.out; omega)
      clear hs
      have hi1 : (k : Int) < n := by omega
      have hi0 : (0 : Int) ≤ k := by omega
      go_wp2
      go_quiet (fail)
      go_wp2
      go_roundw
      case rel => exact ⟨k + 1, by omega, by go_num, _, rfl⟩
      case measure => simp [intOf]; omega
    · obtain rfl : k = n := by omega
      go_wp2
      go_ret
      exact ⟨rfl, _, rfl⟩

/-- The row of a slice, written from some cell on. -/
def MarkedTo (mk : Nat → ByteArray) (w : World) (b : Nat) (n k : Nat) (w' : World) : Prop :=
  (∀ j, j < n → ∃ v, w'.cell? ⟨b, j, none⟩ = some (.string v)) ∧ (∀ j, j < k → w'.cell? ⟨b, j, none⟩ = some (.string (mk j))) ∧ (∀ j, w'.frozen? ⟨b, j, none⟩ = false) ∧ b < w'.heap.size ∧
  w.heap.size ≤ w'.heap.size ∧ w'.os = w.os ∧ w'.tape = w.tape ∧ w'.output = w.output ∧ (∀ i, i < w.heap.size → i ≠ b → w'.heap[i]? = w.heap[i]?)

end Go.Proofs.YtakimjdlkhclbaaGreatDoor
