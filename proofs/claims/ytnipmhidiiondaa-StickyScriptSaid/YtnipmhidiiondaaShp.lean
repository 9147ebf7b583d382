/- Plain law of Shrink: what goes, and what stays. -/
import Derived.Test.YtnipmhidiiondaaRf5
namespace Go.Proofs.Ytnipmhidiiondaa
open Go.RowKit Go.Maps

/-- The names of what goes, the eldest first, until so many are left. -/
def outs (L : List Ent) (m : Nat) : List ByteArray := ((L.drop m).map (·.1)).reverse
theorem outs_all (L : List Ent) : outs L L.length = [] := by unfold outs; simp
theorem outs_step {L : List Ent} {m : Nat} {x : Ent} (h : L[m]? = some x) : outs L m = outs L (m + 1) ++ [x.1] := by
  obtain ⟨h1, h2⟩ := List.getElem?_eq_some_iff.1 h
  unfold outs
  rw [List.drop_eq_getElem_cons h1, h2, List.map_cons, List.reverse_cons]
theorem outs_length (L : List Ent) (m : Nat) : (outs L m).length = L.length - m := by unfold outs; simp
theorem take_last {L : List Ent} {m : Nat} {x : Ent} (h : L[m]? = some x) : (L.take (m + 1)).getLast? = some x ∧ (L.take (m + 1)).dropLast = L.take m := by
  have h1 := (List.getElem?_eq_some_iff.1 h).1
  rw [List.take_add_one, h]
  exact ⟨by simp, by simp⟩
end Go.Proofs.Ytnipmhidiiondaa
