/- RetryRises, whatever comes in. -/
import Derived.Test.YticcicdbncmfbaaRis
import Derived.Test.YticcicdbncmfbaaRib
namespace Go.Proofs.Yticcicdbncmfbaa
open Go.RowKit

theorem rises_walk (F C N D M S : Int) (A : Option Addr) (L K : Nat) (l : List Int) (at_ : Int) (x y : Nat) (w : World) (hrow : InRow w A L K l) (hC : C < 9223372036854775808) (ha : at_ < 9223372036854775808) (hx : x < 4294967296) (hy : y < 4294967296) :
    Calls Try.prog 5 #[.agg #[.int .i64 F, .int .i64 C, .int .i64 N, .int .i64 D, .int .i64 M, .int .i64 S, .slice A L K], .int .i64 at_, .int .u32 x, .int .u32 y] w fun e w' => e = .returned (.bool true) ∧ Below w.heap.size w w' := by
  by_cases hm : May F C N D M S L ∧ 1 ≤ at_
  · obtain ⟨h1, h2⟩ := hm
    have h3 := h1
    obtain ⟨k0, k1, k2, k3, _, _, _, k7, _, _⟩ := h3
    obtain ⟨f, rfl⟩ : ∃ n : Nat, F = n := ⟨F.toNat, by omega⟩
    obtain ⟨c, rfl⟩ : ∃ n : Nat, C = n := ⟨C.toNat, by omega⟩
    obtain ⟨n, rfl⟩ : ∃ n : Nat, N = n := ⟨N.toNat, by omega⟩
    obtain ⟨d, rfl⟩ : ∃ n : Nat, D = n := ⟨D.toNat, by omega⟩
    obtain ⟨s, rfl⟩ : ∃ n : Nat, S = n := ⟨S.toNat, by omega⟩
    obtain ⟨a, rfl⟩ : ∃ n : Nat, at_ = n := ⟨at_.toNat, by omega⟩
    exact rises_ok f c n d M s A L K l a x y w hrow h1 (by omega) (by omega) (by omega) hx hy
  · exact rises_bad F C N D M S A L K l at_ _ _ w hrow hm
end Go.Proofs.Yticcicdbncmfbaa
