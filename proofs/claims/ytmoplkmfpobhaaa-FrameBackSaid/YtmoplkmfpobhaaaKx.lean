/- A slice of bytes that came in reads as a list of bytes. No conditions of its own. -/
import Derived.Test.YtmoplkmfpobhaaaKit
namespace Go.Proofs.Ytmoplkmfpobhaaa
open Go.RowKit Go.WideShapes Go.ChangeShapes

theorem cell_lt {w : World} {a : Addr} {v : Value} (h : w.cell? a = some v) : a.block < w.heap.size := by
  rcases Nat.lt_or_ge a.block w.heap.size with h1 | h1
  · exact h1
  · unfold World.cell? at h
    rw [Array.getElem?_eq_none h1] at h
    cases h
/-- A slice of bytes that came in. -/
theorem bytes_of_row {w : World} {a : Option Addr} {len cap : Nat} {zs : List Int}
    (h : (a = none ∧ len = 0 ∧ cap = 0 ∧ zs = []) ∨ ∃ x, a = some x ∧ len ≤ cap ∧ cap ≤ maxLen ∧ zs.length = cap ∧ (∀ i, i < zs.length → w.cell? (x.add i) = some (.int .u8 (zs.getD i 0))) ∧ ∀ n ∈ zs, (Lit.int .u8 n).wf = true) :
    ∃ l : List UInt8, l.length = len ∧ len ≤ cap ∧ len ≤ 9223372036854775807 ∧ Reads w w.heap.size 1 a len (bcells l) := by
  rcases h with ⟨rfl, rfl, rfl, rfl⟩ | ⟨x, rfl, h1, h2, h3, h4, h5⟩
  · exact ⟨[], rfl, by omega, by omega, ⟨rfl, fun h => absurd h (by omega)⟩⟩
  · refine ⟨(zs.take len).map fun n => UInt8.ofNat n.toNat, by rw [List.length_map, List.length_take]; omega, h1, by unfold maxLen at h2; omega, ?_, fun hn => ?_⟩
    · rw [bcells_length, List.length_map, List.length_take]; omega
    · refine ⟨x, rfl, ?_, fun j u hu => ?_⟩
      · have := cell_lt (h4 0 (by omega))
        rwa [block_of_add] at this
      · unfold bcells at hu
        rw [List.map_map, List.getElem?_map] at hu
        have hj : j < (zs.take len).length := by
          rcases Nat.lt_or_ge j (zs.take len).length with h | h
          · exact h
          · rw [List.getElem?_eq_none h] at hu; cases hu
        rw [List.getElem?_eq_getElem hj] at hu
        have hj2 : j < zs.length := by rw [List.length_take] at hj; omega
        have hm : zs[j] ∈ zs := List.getElem_mem hj2
        have hw := h5 _ hm
        have hr : 0 ≤ zs[j] ∧ zs[j] ≤ 255 := by simpa [Lit.wf, IntKind.min, IntKind.max, IntKind.signed, IntKind.bits] using hw
        rw [h4 j hj2]
        simp only [Option.map_some, Function.comp, List.getElem_take] at hu
        rw [← hu]
        have e1 : zs.getD j 0 = zs[j] := by rw [List.getD_eq_getElem?_getD, List.getElem?_eq_getElem hj2]; rfl
        rw [e1, UInt8.toNat_ofNat']
        congr 2
        omega

end Go.Proofs.Ytmoplkmfpobhaaa
