/- Sums and products of whole numbers that are not below nought, held. -/
import Derived.Test.YticcicdbncmfbaaCpy
namespace Go.Proofs.Yticcicdbncmfbaa
open Go.RowKit

def satN (a : Nat) : Nat := min a 9223372036854775807

theorem add_any (a b : Nat) (ha : a < 9223372036854775808) (hb : b < 9223372036854775808) (w : World) :
    Calls Try.prog 22 #[.int .i64 a, .int .i64 b] w fun e w' => e = .returned (.int .i64 (satN (a + b) : Nat)) ∧ w = w' := by
  by_cases h0 : b = 0
  · subst h0
    go_enter Try.func22, Try.ntmps22
    go_wp2_with fail
    go_ret
    exact ⟨ret_int (by unfold satN; omega), rfl⟩
  · have h1 : 0 < b := by omega
    by_cases h2 : a + b ≤ 9223372036854775807
    · go_enter Try.func22, Try.ntmps22
      go_wp2_with fail
      go_ret
      exact ⟨ret_int (by unfold satN; omega), rfl⟩
    · go_enter Try.func22, Try.ntmps22
      go_wp2_with fail
      go_ret
      exact ⟨ret_int (by unfold satN; omega), rfl⟩

theorem of_any (a : Nat) (ha : a < 9223372036854775808) (w : World) :
    Calls Try.prog 35 #[.int .i64 a] w fun e w' => e = .returned (.agg #[.bool false, .int .u64 0, .int .u64 a]) ∧ Below w.heap.size w w' := by
  go_enter Try.func35, Try.ntmps35
  go_wp2_with fail
  refine bodyPost_ret (results_cell_row rfl _ _ w.heap.size 65 _ (0, 0) _ rfl (Blk.new w 65 _) Try.underlying65 rfl (by kernel_rfl)) rfl ⟨rfl, (Below.refl _ _).alloc (Nat.le_refl _) _⟩

theorem sum_any (a b : Nat) (ha : a < 9223372036854775808) (hb : b < 9223372036854775808) (w : World) :
    Calls Try.prog 34 #[.agg #[.bool false, .int .u64 0, .int .u64 a], .agg #[.bool false, .int .u64 0, .int .u64 b]] w fun e w' => e = .returned (.agg #[.bool false, .int .u64 0, .int .u64 (a + b : Nat)]) ∧ Below w.heap.size w w' := by
  obtain ⟨s, hs⟩ : ∃ s, s = a + b := ⟨_, rfl⟩
  have e1 : (a : Int) + (b : Int) = (s : Int) := by omega
  have h1 : a ≤ s := by omega
  have h2 : s < 18446744073709551615 := by omega
  rw [← hs]
  clear hs
  go_enter Try.func34, Try.ntmps34
  go_wp2_with fail
  have hb := Blk.new ((w.alloc (.cells #[.bool false, .int .u64 0, .int .u64 (a : Nat)] 65)).alloc (.cells #[.bool false, .int .u64 0, .int .u64 (b : Nat)] 65)) 65 #[.bool false, .int .u64 0, .int .u64 (s : Nat)]
  simp only [World.size_alloc] at hb
  exact bodyPost_ret (results_cell_row rfl _ _ (w.heap.size + 1 + 1) 65 _ (0, 0) _ rfl hb Try.underlying65 rfl (by kernel_rfl)) rfl ⟨rfl, (((Below.refl _ _).alloc (Nat.le_refl _) _).alloc (by simp) _).alloc (by simp; omega) _⟩

theorem held_any (a : Nat) (ha : a < 18446744073709551615) (w : World) :
    Calls Try.prog 33 #[.agg #[.bool false, .int .u64 0, .int .u64 a]] w fun e w' => e = .returned (.int .i64 (satN a : Nat)) ∧ Below w.heap.size w w' := by
  by_cases h : a < 9223372036854775808
  · have t1 : decide ((9223372036854775808 : Int) ≤ (a : Int)) = false := decide_eq_false (by omega)
    go_enter Try.func33, Try.ntmps33
    go_wp2_with fail
    go_ret
    exact ⟨ret_int (by unfold satN; omega), (Below.refl _ _).alloc (Nat.le_refl _) _⟩
  · have t1 : decide ((9223372036854775808 : Int) ≤ (a : Int)) = true := decide_eq_true (by omega)
    go_enter Try.func33, Try.ntmps33
    go_wp2_with fail
    go_ret
    exact ⟨ret_int (by unfold satN; omega), (Below.refl _ _).alloc (Nat.le_refl _) _⟩
end Go.Proofs.Yticcicdbncmfbaa
