/- A call of markText at a number from 1 to 1000 returns its mark, whatever the world; nothing that lay before has turned. -/
import Derived.Test.YtakimjdlkhclbaaGreatDoorProg
import Derived.WalkKit
import Derived.WalkSpells
import Derived.WalkLawsBesides
import Derived.Laws.BytesArg
import Derived.Lib.Hide
namespace Go.Proofs.YtakimjdlkhclbaaGreatDoor
open Go.RowKit

/-- One digit in front of what has been written. -/
def digitBefore (j : Nat) (s : ByteArray) : ByteArray := strOfNums [48 + (j : Int) % 10] ++ s
/-- The digits of a number in front of what has been written. -/
def markRun : Nat → Nat → ByteArray → ByteArray
  | 0, _, out => out
  | f + 1, k, out => if k = 0 then out else markRun f (k / 10) (digitBefore k out)
/-- The text of a mark. -/
def markOf (k : Nat) : ByteArray := ⟨#[109]⟩ ++ markRun 1000 k ByteArray.empty

theorem digitBefore_size (j : Nat) (s : ByteArray) : (digitBefore j s).size = s.size + 1 := by
  simp [digitBefore, ByteArray.size_append, strOfNums_size]; omega

theorem convert_one (W : World) (x : Int) :
    (convert 41 9 (.slice (some ⟨W.heap.size, 0, none⟩) 1 1)).run Tryz.prog (W.alloc (.cells #[.int .u8 x] 5)) = .ok (.string (strOfNums [x])) (W.alloc (.cells #[.int .u8 x] 5)) := by
  refine run_convert_bytes_arg _ 41 5 Tryz.underlying41 Tryz.underlying5 W.heap.size 0 1 1 [x] rfl (fun i hi => ?_) 9 Tryz.underlying9
  obtain rfl : i = 0 := by omega
  exact World.cell?_alloc_at _ _ _ _ rfl

/-- What a call of markText leaves. -/
def MarkPost (k : Nat) (w : World) (e : Ending) (w' : World) : Prop := e = .returned (.string (markOf k)) ∧ Below w.heap.size w w'
def MarkRel (k : Nat) (w : World) (j : Nat) (s : ByteArray) (wr : World) : Prop := (∃ f, j ≤ f ∧ markRun f j s = markRun 1000 k ByteArray.empty) ∧ Below w.heap.size w wr

set_option maxRecDepth 100000 in
set_option maxHeartbeats 1000000 in
theorem mark_any (k : Nat) (hk0 : 0 < k) (hk : k ≤ 1000) (w : World) :
    Calls Tryz.prog 12 #[.int .i64 k] w (MarkPost k w) := by
  have hcv := convert_one
  have hk0' : decide (k = 0) = false := by simp; omega
  go_enter Tryz.func12, Tryz.ntmps12
  go_wp2
  go_loopw [0, 3] (fun a o wr => ∃ (j : Nat) (s : ByteArray), j ≤ k ∧ s.size + j ≤ k ∧ a = .int .i64 j ∧ o = .string s ∧ MarkRel k w j s wr) (fun a _ _ => (intOf a).toNat)
  case atStart => exact ⟨k, _, by omega, by simp [ByteArray.size], rfl, rfl, ⟨1000, hk, rfl⟩, Below.refl _ _⟩
  case round =>
    obtain ⟨j, s, hj, hs, rfl, rfl, hr⟩ := hrel
    have hd1 : (strOfNums [48 + (j : Int) % 10]).size ≤ 1 := by rw [strOfNums_size]; exact Nat.le_refl _
    by_cases h0 : 0 < j
    · go_wp2
      go_roundw
      case rel =>
        refine ⟨j / 10, _, by omega, ?_, by simp, rfl, ?_, hr.2.alloc (by have := hr.2.size; omega) _⟩
        · have := digitBefore_size j s; simp only [digitBefore] at this; omega
        · obtain ⟨f, hf, he⟩ := hr.1
          obtain ⟨f, rfl⟩ : ∃ g, f = g + 1 := ⟨f - 1, by omega⟩
          refine ⟨f, by omega, ?_⟩
          rw [← he]
          simp only [markRun]
          rw [if_neg (by omega)]
          rfl
      case measure => simp [intOf]; omega
    · obtain rfl : j = 0 := by omega
      go_wp2
      go_ret
      obtain ⟨f, _, he⟩ := hr.1
      refine ⟨?_, hr.2⟩
      have : s = markRun 1000 k ByteArray.empty := by rw [← he]; cases f <;> simp [markRun]
      rw [this]
      rfl
end Go.Proofs.YtakimjdlkhclbaaGreatDoor
