/- A call of the law FnExactDeskWords returns true, whatever the world; nothing that lay before has turned. -/
import Derived.Test.YtakimjdlkhclbaaGreatDoorDesk
import Derived.Test.YtakimjdlkhclbaaGreatDoorHeld
namespace Go.Proofs.YtakimjdlkhclbaaGreatDoor
open Go.RowKit

theorem wordsV_length : wordsV.length = 27 := by decide

/-- The words as strings. -/
def wordsT : List ByteArray := wordsB.map fun l => ⟨l.toArray⟩
theorem wordsT_length : wordsT.length = 27 := by decide
theorem wordsV_get (j : Nat) (hj : j < 27) : wordsV[j]? = some (.string (wordsT.getD j ByteArray.empty)) := by
  have h : j < wordsB.length := hj
  simp [wordsV, wordsT, encStr, List.getElem?_eq_getElem h]

/-- A slice of the words: its block, what the block holds. -/
theorem row_open {w : World} {base : Nat} {v : Value} (h : w.ownsRow base 9 1 v 27 wordsV) :
    ∃ g cap, v = .slice (some ⟨g, 0, none⟩) 27 cap ∧ base ≤ g ∧ g < w.heap.size ∧ HoldsS w g wordsT ∧ ∀ j, w.frozen? ⟨g, j, none⟩ = false := by
  have hlt := h.lt
  have hcells := @World.ownsRow.cells _ _ _ _ _ _ _ h
  rcases h.2 with ⟨_, h0⟩ | ⟨g, cap, cur, rfl, hb, hg, _, _, _, _⟩
  · cases h0
  · refine ⟨g, cap, rfl, hb, (hlt g rfl).2, fun j hj => ?_, fun j => ?_⟩
    · have := hcells (g := g) rfl j _ (wordsV_get j (by rw [wordsT_length] at hj; exact hj))
      have hadd : (⟨g, 0, none⟩ : Addr).add j = ⟨g, j, none⟩ := by unfold Addr.add; split <;> simp_all
      rwa [hadd] at this
    · simp [World.frozen?, hg]

theorem HoldsS.below {w w' : World} {b B : Nat} {ss : List ByteArray} (h : HoldsS w b ss) (hb : Below B w w') (hlt : b < B) : HoldsS w' b ss :=
  fun j hj => (hb.cell (p := ⟨b, j, none⟩) hlt).trans (h j hj)

theorem marked_start {w : World} {g : Nat} (h : HoldsS w g wordsT) (hf : ∀ j, w.frozen? ⟨g, j, none⟩ = false) (hlt : g < w.heap.size) : Marked 1 27 g w 0 w :=
  { strs := fun j hj => ⟨_, h j (by rw [wordsT_length]; exact hj)⟩
    done := fun j hj => absurd hj (Nat.not_lt_zero _)
    free := hf
    lt := hlt
    grown := ⟨rfl, rfl, rfl, Nat.le_refl _, fun _ _ _ => rfl⟩ }

theorem eq_words (b1 b2 c1 c2 : Nat) (w : World) (h1 : HoldsS w b1 wordsT) (h2 : HoldsS w b2 wordsT) :
    Calls Tryz.prog 6 #[.slice (some ⟨b1, 0, none⟩) 27 c1, .slice (some ⟨b2, 0, none⟩) 27 c2] w (EqPost w) := by
  have := eq_yes b1 b2 c1 c2 wordsT w (by rw [wordsT_length]; omega) h1 h2
  rwa [wordsT_length] at this

/-- Block g bears the marks from 1 on. -/
def MarksIn (w : World) (g : Nat) : Prop := ∀ j, j < 27 → w.cell? ⟨g, j, none⟩ = some (.string (markOf (1 + j)))
/-- Block g can be written. -/
def FreeB (w : World) (g : Nat) : Prop := ∀ j, w.frozen? ⟨g, j, none⟩ = false

def Marks28 (g : Nat) (w : World) (e : Ending) (w' : World) : Prop := e = .returned (.int .i64 28) ∧ Marked 1 27 g w 27 w'
theorem marks_words (g c : Nat) (w : World) (h : Marked 1 27 g w 0 w) : Calls Tryz.prog 7 #[.slice (some ⟨g, 0, none⟩) (27 : Nat) c, .int .i64 1] w (Marks28 g w) :=
  marks_any 1 27 g c (by omega) (by omega) w h
def Held28 (w : World) (e : Ending) (w' : World) : Prop := e = .returned (.int .i64 28) ∧ Below w.heap.size w w'
theorem held_words (g c : Nat) (w : World) (hlt : g < w.heap.size) (h : ∀ j, j < 27 → w.cell? ⟨g, j, none⟩ = some (.string (markOf (1 + j)))) :
    Calls Tryz.prog 8 #[.slice (some ⟨g, 0, none⟩) (27 : Nat) c, .int .i64 1] w (Held28 w) :=
  held_any 1 27 g c (by omega) (by omega) w hlt h

/-- What the law's call leaves. -/
def LawPost (w : World) (e : Ending) (w' : World) : Prop := e = .returned (.bool true) ∧ Below w.heap.size w w'

set_option maxRecDepth 100000 in
set_option maxHeartbeats 400000 in
theorem law_any (w : World) : Calls Tryz.prog 3 #[] w (LawPost w) := by
  go_enter Tryz.func3, Tryz.ntmps3
  go_wp2_with fail
  refine (spec_any _).mono ?_
  rintro e w0 ⟨rfl, hw0⟩
  have hb0 : Below w.heap.size w w0 := by rw [hw0]; exact (Below.refl _ _).alloc (Nat.le_refl _) _
  have hz0 : w.heap.size < w0.heap.size := by rw [hw0]; simp
  have hs0 : HoldsS w0 w.heap.size wordsT := fun j hj => by
    rw [hw0, World.cell?_alloc_at _ _ _ _ rfl]
    rw [wordsT_length] at hj
    simpa using wordsV_get j hj
  obtain ⟨B0, hB0⟩ : ∃ B0, B0 = w.heap.size := ⟨_, rfl⟩
  rw [← hB0] at hs0 hz0 ⊢
  have hBw : w.heap.size ≤ B0 := by omega
  clear hw0 hB0
  go_wp2_with fail
  refine (desk_any _).mono ?_
  rintro e w1 ⟨v, rfl, hrow, hb1⟩
  obtain ⟨g, cap, rfl, hg, hgl, hs1, hf1⟩ := row_open hrow
  have hF1 : FreeB w1 g := hf1
  clear hrow hf1
  have ht1 := hs0.below hb1 hz0
  have hc1 : Below w.heap.size w w1 := hb0.trans (hb1.mono hb0.size)
  have hBg : B0 < g := Nat.lt_of_lt_of_le hz0 hg
  clear hb0 hb1 hs0
  go_wp2_with fail
  refine (eq_words _ _ _ _ _ hs1 ht1).mono ?_
  rintro e w2 ⟨rfl, n2, hn2⟩
  have hs2 : HoldsS w2 g wordsT := by rw [hn2]; exact hs1
  have ht2 : HoldsS w2 B0 wordsT := by rw [hn2]; exact ht1
  have hf2 : ∀ j, w2.frozen? ⟨g, j, none⟩ = false := by rw [hn2]; exact hF1
  have hl2 : g < w2.heap.size := by rw [hn2]; exact hgl
  have hc2 : Below w.heap.size w w2 := by rw [hn2]; exact ⟨hc1.os, hc1.tape, hc1.output, hc1.size, hc1.block⟩
  have hM := marked_start hs2 hf2 hl2
  clear hn2 hs1 ht1 hF1 hgl hc1 hs2 hf2
  go_wp2_with fail
  refine (marks_words _ _ _ hM).mono ?_
  rintro e w3 ⟨rfl, hM3⟩
  have hc3 : Below w.heap.size w w3 := hc2.grown hM3.grown hc2.size (fun k hk => by cases hk; omega)
  have ht3 : HoldsS w3 B0 wordsT := fun j hj => (World.cell?_of_block (hM3.grown.block B0 (by omega) (by intro e; cases e; omega))).trans (ht2 j hj)
  have hl3 := hM3.lt
  have hd3 : MarksIn w3 g := fun j hj => hM3.done j hj hj
  clear hM hM3 hc2 ht2 hl2
  go_wp2_with fail
  refine (held_words _ _ _ hl3 hd3).mono ?_
  rintro e w4 ⟨rfl, hb4⟩
  have hc4 : Below w.heap.size w w4 := hc3.trans (hb4.mono hc3.size)
  have ht4 : HoldsS w4 B0 wordsT := ht3.below hb4 (by omega)
  have hl4 : g < w4.heap.size := Nat.lt_of_lt_of_le hl3 hb4.size
  have hd4 : MarksIn w4 g := fun j hj => (hb4.cell (p := ⟨g, j, none⟩) hl3).trans (hd3 j hj)
  clear hb4 hd3 hl3 ht3 hc3
  go_wp2_with fail
  refine (desk_any _).mono ?_
  rintro e w5 ⟨v, rfl, hrow, hb5⟩
  obtain ⟨g5, cap5, rfl, _, _, hs5, _⟩ := row_open hrow
  clear hrow
  have ht5 := ht4.below hb5 (by omega)
  have hc5 : Below w.heap.size w w5 := hc4.trans (hb5.mono hc4.size)
  have hl5 : g < w5.heap.size := Nat.lt_of_lt_of_le hl4 hb5.size
  have hd5 : MarksIn w5 g := fun j hj => (hb5.cell (p := ⟨g, j, none⟩) hl4).trans (hd4 j hj)
  clear hb5 hd4 hl4 ht4 hc4
  go_wp2_with fail
  refine (eq_words _ _ _ _ _ hs5 ht5).mono ?_
  rintro e w6 ⟨rfl, n6, hn6⟩
  have hl6 : g < w6.heap.size := by rw [hn6]; exact hl5
  have hc6 : Below w.heap.size w w6 := by rw [hn6]; exact ⟨hc5.os, hc5.tape, hc5.output, hc5.size, hc5.block⟩
  have hd6 : MarksIn w6 g := by rw [hn6]; exact hd5
  clear hn6 hs5 ht5 hl5 hc5 hd5
  go_wp2_with fail
  refine (held_words _ _ _ hl6 hd6).mono ?_
  rintro e w7 ⟨rfl, hb7⟩
  have hc7 : Below w.heap.size w w7 := hc6.trans (hb7.mono hc6.size)
  clear hb7 hd6 hl6 hc6
  go_wp2_with fail
  go_ret
  exact ⟨rfl, hc7⟩
end Go.Proofs.YtakimjdlkhclbaaGreatDoor
