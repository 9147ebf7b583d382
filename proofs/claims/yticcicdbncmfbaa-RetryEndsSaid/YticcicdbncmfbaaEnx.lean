/- Draws that came in. -/
import Derived.Test.YticcicdbncmfbaaEnd
import Derived.Test.YticcicdbncmfbaaOp
namespace Go.Proofs.Yticcicdbncmfbaa
open Go.RowKit

theorem drRow_of {w : World} {x : Addr} {len cap : Nat} {zs : List Int} (h1 : len ≤ cap) (h2 : cap ≤ maxLen) (h3 : zs.length = cap) (h4 : ∀ i, i < zs.length → w.cell? (x.add i) = some (.int .u32 (zs.getD i 0))) (h5 : ∀ n ∈ zs, (Lit.int .u32 n).wf = true) :
    DrRow w (some x) len ((zs.take len).map Int.toNat) := by
  refine ⟨⟨by simp [dcells, List.length_take]; omega, fun hn => ⟨x, rfl, ?_, fun j u hu => ?_⟩⟩, by rw [List.length_map, List.length_take]; omega, by unfold maxLen at h2; omega, fun y hy => ?_⟩
  · have := cell_lt (h4 0 (by omega))
    rwa [block_of_add] at this
  · have hj : j < (zs.take len).length := by
      have h := (List.getElem?_eq_some_iff.1 hu).1
      simpa [dcells] using h
    have hj2 : j < zs.length := by rw [List.length_take] at hj; omega
    have hw := h5 _ (List.getElem_mem hj2)
    have hr : 0 ≤ zs[j] ∧ zs[j] ≤ 4294967295 := by simpa [Lit.wf, IntKind.min, IntKind.max, IntKind.signed, IntKind.bits] using hw
    rw [h4 j hj2]
    unfold dcells at hu
    rw [List.map_map, List.getElem?_map, List.getElem?_eq_getElem hj] at hu
    simp only [Option.map_some, Function.comp, List.getElem_take] at hu
    rw [← hu]
    have e1 : zs.getD j 0 = zs[j] := by rw [List.getD_eq_getElem?_getD, List.getElem?_eq_getElem hj2]; rfl
    rw [e1]
    congr 2
    omega
  · obtain ⟨z, hz, rfl⟩ := List.mem_map.1 hy
    have hw := h5 z (List.mem_of_mem_take hz)
    have hr : 0 ≤ z ∧ z ≤ 4294967295 := by simpa [Lit.wf, IntKind.min, IntKind.max, IntKind.signed, IntKind.bits] using hw
    omega

theorem ends_walk (F C N D M S : Int) (A : Option Addr) (L K : Nat) (l : List Int) (code : Int) (A2 : Option Addr) (L2 K2 : Nat) (dl : List Nat) (w : World) (hrow : InRow w A L K l) (hdr : DrRow w A2 L2 dl) (hC : C < 9223372036854775808) :
    Calls Try.prog 8 #[.agg #[.int .i64 F, .int .i64 C, .int .i64 N, .int .i64 D, .int .i64 M, .int .i64 S, .slice A L K], .int .i64 code, .slice A2 L2 K2] w fun e w' => e = .returned (.bool true) ∧ Below w.heap.size w w' := by
  by_cases hm : May F C N D M S L ∧ M ≤ 200
  · obtain ⟨h1, h2⟩ := hm
    have h3 := h1
    obtain ⟨k0, k1, k2, k3, _, k5, _, k7, _, _⟩ := h3
    obtain ⟨f, rfl⟩ : ∃ n : Nat, F = n := ⟨F.toNat, by omega⟩
    obtain ⟨c, rfl⟩ : ∃ n : Nat, C = n := ⟨C.toNat, by omega⟩
    obtain ⟨n, rfl⟩ : ∃ n : Nat, N = n := ⟨N.toNat, by omega⟩
    obtain ⟨d, rfl⟩ : ∃ n : Nat, D = n := ⟨D.toNat, by omega⟩
    obtain ⟨s, rfl⟩ : ∃ n : Nat, S = n := ⟨S.toNat, by omega⟩
    obtain ⟨m, rfl⟩ : ∃ n : Nat, M = n := ⟨M.toNat, by omega⟩
    exact ends_ok f c n d m s A L K l code A2 L2 K2 dl w hrow hdr h1 (by omega) (by omega)
  · exact ends_not F C N D M S A L K l code _ w hrow hm
end Go.Proofs.Yticcicdbncmfbaa
