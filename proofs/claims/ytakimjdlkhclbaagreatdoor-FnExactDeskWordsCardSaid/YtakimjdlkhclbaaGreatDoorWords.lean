/- The words of the console in the order of the program's table are a permutation of the words in rising order, and a sorted permutation of them is that list; no condition. -/
namespace Go.Proofs.YtakimjdlkhclbaaGreatDoor

/-- The words of the commands in their order, as bytes. -/
def wordsB : List (List UInt8) := [[98, 108, 111, 99, 107, 115],
  [99, 104, 97, 110, 99, 101, 115],
  [99, 111, 110, 102, 105, 103, 115],
  [99, 111, 117, 110, 116, 101, 100],
  [99, 111, 117, 110, 116, 101, 114],
  [99, 117, 116],
  [100, 101, 99, 111, 100, 101, 100],
  [103, 114, 111, 119],
  [104, 97, 110, 100, 115],
  [104, 101, 97, 108, 115],
  [109, 97, 99, 104, 105, 110, 101],
  [109, 101, 97, 115, 117, 114, 101],
  [111, 112, 116, 105, 111, 110, 115],
  [112, 97, 105, 110, 116, 101, 100],
  [112, 97, 116, 116, 101, 114, 110],
  [114, 101, 115, 101, 116],
  [115, 99, 104, 101, 100, 117, 108, 101],
  [115, 104, 97, 112, 101],
  [115, 104, 111, 119],
  [115, 111, 114, 116, 101, 100],
  [115, 111, 114, 116, 101, 114],
  [115, 113, 117, 97, 114, 101],
  [115, 116, 97, 98, 108, 101],
  [115, 116, 101, 112],
  [116, 105, 103, 104, 116],
  [117, 110, 105, 113, 117, 101],
  [122, 105, 103, 122, 97, 103]]

/-- The words of the commands in the order of the table, as bytes. -/
def tabB : List (List UInt8) := [[99, 111, 117, 110, 116, 101, 114],
  [122, 105, 103, 122, 97, 103],
  [109, 97, 99, 104, 105, 110, 101],
  [115, 111, 114, 116, 101, 114],
  [115, 104, 97, 112, 101],
  [115, 113, 117, 97, 114, 101],
  [112, 97, 116, 116, 101, 114, 110],
  [98, 108, 111, 99, 107, 115],
  [115, 99, 104, 101, 100, 117, 108, 101],
  [103, 114, 111, 119],
  [115, 116, 101, 112],
  [114, 101, 115, 101, 116],
  [99, 117, 116],
  [115, 104, 111, 119],
  [111, 112, 116, 105, 111, 110, 115],
  [99, 111, 117, 110, 116, 101, 100],
  [99, 111, 110, 102, 105, 103, 115],
  [115, 111, 114, 116, 101, 100],
  [112, 97, 105, 110, 116, 101, 100],
  [100, 101, 99, 111, 100, 101, 100],
  [117, 110, 105, 113, 117, 101],
  [115, 116, 97, 98, 108, 101],
  [116, 105, 103, 104, 116],
  [104, 101, 97, 108, 115],
  [99, 104, 97, 110, 99, 101, 115],
  [109, 101, 97, 115, 117, 114, 101],
  [104, 97, 110, 100, 115]]

/-- A sorted list of words is the one that it is a reordering of, if that one is in order. -/
theorem sort_eq {ss l S : List (List UInt8)} (hp : ss.Perm l) (hl : l.Perm S) (hS : S.Pairwise (fun a b => decide (a ≤ b) = true)) :
    ss.mergeSort (fun x y => decide (x ≤ y)) = S := by
  refine List.Perm.eq_of_pairwise (le := fun a b => decide (a ≤ b) = true) ?_ ?_ hS ?_
  · intro a b _ _ h1 h2
    exact List.le_antisymm (by simpa using h1) (by simpa using h2)
  · refine List.pairwise_mergeSort ?_ ?_ ss
    · intro a b c h1 h2
      simp only [decide_eq_true_eq] at *
      exact List.le_trans h1 h2
    · intro a b
      simpa using List.le_total a b
  · exact (List.mergeSort_perm _ _).trans (hp.trans hl)

theorem words_rise : wordsB.Pairwise (fun a b => decide (a ≤ b) = true) := by decide +kernel

theorem tab_perm : tabB.Perm wordsB := by
  have : tabB.isPerm wordsB = true := by decide +kernel
  exact List.isPerm_iff.1 this
end Go.Proofs.YtakimjdlkhclbaaGreatDoor
