/- What is told of a list of bytes' lists that came in. -/
import Derived.Test.YtmoplkmfpobhaaaSpl
import Derived.Test.YtmoplkmfpobhaaaRows
import Derived.ProofKit
import Derived.OpenShut
import Derived.ShutString
import Derived.ChangeOld
import Derived.Deep.Matrix
namespace Go.Proofs.Ytmoplkmfpobhaaa
open Go.ChangeShapes Go.WideShapes Go.ChangeAt Go.RowKit Go.Deep

theorem exists_list {α : Type} {P : Nat → α → Prop} : ∀ n, (∀ r, r < n → ∃ l, P r l) → ∃ ls : List α, ls.length = n ∧ ∀ r l, ls[r]? = some l → P r l
  | 0, _ => ⟨[], rfl, fun r l h => by simp at h⟩
  | n + 1, h => by
    obtain ⟨ls, hl, hp⟩ := exists_list n (fun r hr => h r (by omega))
    obtain ⟨x, hx⟩ := h n (by omega)
    refine ⟨ls ++ [x], by simp [hl], fun r l hr => ?_⟩
    rw [List.getElem?_append] at hr
    split at hr
    · exact hp r l hr
    · have h0 : r - ls.length = 0 := by
        rcases Nat.eq_zero_or_pos (r - ls.length) with h | h
        · exact h
        · rw [List.getElem?_eq_none (by simp; omega)] at hr; cases hr
      rw [h0] at hr
      have e1 : x = l := by simpa using hr
      have e2 : r = n := by omega
      rw [← e1, e2]; exact hx

theorem cells35 : Try.prog.cellsOf 35 = 1 := by kernel_rfl
theorem cells22 : Try.prog.cellsOf 22 = 1 := by kernel_rfl
theorem cells5 : Try.prog.cellsOf 5 = 1 := by kernel_rfl

theorem open_rows {H : Type} {enc : TypeId × Value → H} {W : World} {base : Nat} {v0 : Value} {d0 : DataW H} {p0 : List MemPlace}
    (hval : Value.okWide Try.prog W .any base 35 v0) (h0 : DataW.Trod enc Try.prog W 0 (fun _ => true) true 35 v0 d0 p0) :
    ∃ (A : Option Addr) (ls : List (List UInt8)) (c : Nat), v0 = .slice A ls.length c ∧ RL W W.heap.size A ls ∧ ls.length ≤ 9223372036854775807 := by
  obtain ⟨a0, len0, cap0, rfl⟩ := okWide_slice Try.underlying35 hval
  obtain ⟨fuel, hf⟩ := h0
  rcases open_int_rows Try.underlying35 Try.underlying22 Try.underlying5 cells22 cells5 hf with ⟨hcs, _⟩ | ⟨a, len, cap, A, L, C, Z, hcs, _, hl, hm, _, hrow⟩
  · simp [Value.cells] at hcs
    obtain ⟨rfl, rfl, rfl⟩ := hcs
    exact ⟨none, [], 0, rfl, ⟨[], Reads.none_, fun i u l h => by simp at h⟩, by simp⟩
  · simp [Value.cells] at hcs
    obtain ⟨rfl, rfl, rfl⟩ := hcs
    have each : ∀ r, r < len0 → ∃ l : List UInt8, l.length = L r ∧ Reads W W.heap.size 1 (A r) (L r) (bcells l) := fun r hr => by
      obtain ⟨_, h1, h2, h3, h4, h5, h6⟩ := hrow r (by omega)
      have hx : (A r = none ∧ L r = 0 ∧ C r = 0 ∧ Z r = []) ∨ ∃ x, A r = some x ∧ L r ≤ C r ∧ C r ≤ maxLen ∧ (Z r).length = C r ∧ (∀ i, i < (Z r).length → W.cell? (x.add i) = some (.int .u8 ((Z r).getD i 0))) ∧ ∀ n ∈ Z r, (Lit.int .u8 n).wf = true := by
        cases hA : A r with
        | none =>
          have h7 := h5 hA
          exact .inl ⟨rfl, by omega, h7, List.eq_nil_of_length_eq_zero (by omega)⟩
        | some x => exact .inr ⟨x, rfl, h1, h2, h3, fun i hi => (h6 x hA).2 i (by omega), h4⟩
      obtain ⟨l, q1, _, _, q2⟩ := bytes_of_row hx
      exact ⟨l, q1, q2⟩
    obtain ⟨ls, hls, hp⟩ := exists_list len0 each
    refine ⟨some a, ls, cap0, by rw [hls], ⟨(List.range len0).map fun r => .slice (A r) (L r) (C r), ?_, fun i u l h1 h2 => ?_⟩, by rw [hls]; unfold maxLen at hm; omega⟩
    · refine ⟨by simp [hls], fun hn => ⟨a, rfl, ?_, fun j u hu => ?_⟩⟩
      · have := cell_lt (hrow 0 (by omega)).1
        rwa [block_of_add] at this
      · have hj : j < len0 := by
          have := (List.getElem?_eq_some_iff.1 hu).1
          simpa using this
        rw [List.getElem?_map, List.getElem?_eq_getElem (by simpa using hj)] at hu
        simp only [Option.map_some, List.getElem_range] at hu
        rw [← hu]
        exact (hrow j (by omega)).1
    · have hi : i < len0 := by rw [← hls]; exact (List.getElem?_eq_some_iff.1 h2).1
      obtain ⟨q1, q2⟩ := hp i l h2
      rw [List.getElem?_map, List.getElem?_eq_getElem (by simpa using hi)] at h1
      simp only [Option.map_some, List.getElem_range] at h1
      have h1' : Value.slice (A i) (L i) (C i) = u := by injection h1
      exact ⟨A i, C i, by rw [← h1', q1], by rw [q1]; exact q2⟩
end Go.Proofs.Ytmoplkmfpobhaaa
