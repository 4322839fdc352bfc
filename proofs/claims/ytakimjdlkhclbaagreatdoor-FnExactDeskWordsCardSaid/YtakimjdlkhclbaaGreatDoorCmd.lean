/- A call of commands returns a new map that holds just the words of the table as its keys, whatever the world; nothing that lay before has turned. -/
import Derived.Test.YtakimjdlkhclbaaGreatDoorProg
import Derived.WalkKit
import Derived.Maps.Own
import Derived.Maps.OwnOps
import Derived.Test.YtakimjdlkhclbaaGreatDoorWords
import Derived.Sort.KeysCollected
namespace Go.Proofs.YtakimjdlkhclbaaGreatDoor
open Go.RowKit Go.WideMaps Go.Maps

/-- An insertion of a map literal, at the operation: as 'm[k] = v'. -/
theorem wpList_insert_own {H : Type} {P : Program} (w : World) {ops : Array Oper} {rest : List Oper} {o : Oper} {a : Act} {Q : Exit → Act → World → Prop}
    (hg : o.guard = none) (m x v : Operand) (t : TypeId) (hop : o.op = Op.insert t m x v)
    (k e : TypeId) (K : Keyed P k) (ht : P.underlying t = some (.map k e)) (R : Value → Option (DataW H × List MemPlace)) (b n : Nat) (D : DataW H)
    (hm : a.eval m = .map (some b)) (hown : w.ownsMap P k R b n D) (hn : n < maxLen) (key val : Value) (kl : Lit) (hx : a.eval x = key) (hv : a.eval v = val) (hkey : keyOf P k key = some kl)
    (d : DataW H) (ps : List MemPlace) (hval : R val = some (d, ps))
    (hK : ∀ w', w'.ownsMap P k R b (n + 1) (D.put kl d) → w.grownBy w' (some b) → wpList P ops Q rest (a.put o.dst undef) w') :
    wpList P ops Q (o :: rest) a w := by
  refine wpList_plain hg fun K' hK' => ?_
  obtain ⟨w', hrun, r1, r2⟩ := hown.update K ht hn hkey hval
  unfold Oper.wp
  simp [execOp, hop, hm, hx, hv, hrun, Result.andThen]
  exact hK' _ _ (hK w' r1 r2)

theorem law : Keyed Tryz.prog 9 := string_keyed Tryz.underlying9
def R0 (_ : Value) : Option (DataW Unit × List MemPlace) := some (.nil, [])

/-- What the table of commands reads as: its keys. -/
def cmdD : DataW Unit := tabB.foldl (fun D k => D.put (.string k) .nil) (.map [])

theorem cmdD_keys : (strKeys cmdD).Perm tabB := by
  have : (strKeys cmdD).isPerm tabB = true := by decide +kernel
  exact List.isPerm_iff.1 this

theorem cmdD_size : Maps.size cmdD = 27 := by decide +kernel

/-- What a call of commands leaves: a new map with those keys. -/
def CmdPost (w : World) (e : Ending) (w' : World) : Prop := e = .returned (.map (some w.heap.size)) ∧ w'.ownsMap Tryz.prog 9 R0 w.heap.size 27 cmdD ∧ Below w.heap.size w w'

set_option maxRecDepth 100000 in
set_option maxHeartbeats 1000000 in
theorem commands_any (w : World) : Calls Tryz.prog 11 #[] w (CmdPost w) := by
  have hmm := @run_makeMap Tryz.prog
  have hown : (w.alloc (.map #[] 0)).ownsMap Tryz.prog 9 R0 w.heap.size 0 (.map []) := World.ownsMap_made _ _ _ _
  have hb : Below w.heap.size w (w.alloc (.map #[] 0)) := (Below.refl _ _).alloc (Nat.le_refl _) _
  go_enter Tryz.func11, Tryz.ntmps11
  go_wp2_with (refine wpList_insert_own _ rfl _ _ _ 31 rfl 9 34 law Tryz.underlying31 R0 w.heap.size _ _ rfl (by assumption) (by unfold maxLen; omega) _ _ _ rfl rfl (keyOf_string_mk Tryz.underlying9 (by decide)) .nil [] rfl ?_; clear hown; intro w' hown hg; replace hb := hb.grown hg (by have := hb.size; omega) (fun j hj => by cases hj; exact Nat.le_refl _); clear hg)
  go_ret
  exact ⟨rfl, hown, hb⟩
end Go.Proofs.YtakimjdlkhclbaaGreatDoor
