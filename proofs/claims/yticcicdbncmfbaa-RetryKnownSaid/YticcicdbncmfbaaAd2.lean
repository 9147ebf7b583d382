/- The document's sum; the product, held. -/
import Derived.Test.YticcicdbncmfbaaAdd
namespace Go.Proofs.Yticcicdbncmfbaa
open Go.RowKit

theorem refAdd_any (a b : Nat) (ha : a < 9223372036854775808) (hb : b < 9223372036854775808) (w : World) :
    Calls Try.prog 26 #[.int .i64 a, .int .i64 b] w fun e w' => e = .returned (.int .i64 (satN (a + b) : Nat)) ∧ Below w.heap.size w w' := by
  go_enter Try.func26, Try.ntmps26
  go_wp2_with fail
  refine (of_any a ha w).mono ?_
  rintro e w1 ⟨rfl, hb1⟩
  go_wp2_with fail
  refine (of_any b hb w1).mono ?_
  rintro e w2 ⟨rfl, hb2⟩
  go_wp2_with fail
  refine (sum_any a b ha hb w2).mono ?_
  rintro e w3 ⟨rfl, hb3⟩
  go_wp2_with fail
  refine (held_any (a + b) (by omega) w3).mono ?_
  rintro e w4 ⟨rfl, hb4⟩
  go_wp2_with fail
  go_ret
  have h2 := hb1.trans (hb2.mono hb1.size)
  have h3 := h2.trans (hb3.mono h2.size)
  exact ⟨rfl, h3.trans (hb4.mono h3.size)⟩

theorem end_any (w : World) : Calls Try.prog 32 #[.bool false] w fun e w' => e = .returned (.int .i64 9223372036854775807) ∧ w = w' := by
  go_enter Try.func32, Try.ntmps32
  go_wp2_with fail
  go_ret
  exact ⟨rfl, rfl⟩

theorem mulS_any (a b : Nat) (ha : a < 9223372036854775808) (hb : b < 1000) (w : World) :
    Calls Try.prog 25 #[.int .i64 a, .int .i64 b] w fun e w' => e = .returned (.int .i64 (satN (a * b) : Nat)) ∧ w = w' := by
  by_cases h0 : a = 0
  · subst h0
    go_enter Try.func25, Try.ntmps25
    go_wp2_with fail
    go_ret
    exact ⟨ret_int (by unfold satN; simp), rfl⟩
  by_cases h1 : b = 0
  · subst h1
    go_enter Try.func25, Try.ntmps25
    go_wp2_with fail
    go_ret
    exact ⟨ret_int (by unfold satN; simp), rfl⟩
  have hp : a * b < 9223372036854775808 * 1000 := Nat.mul_lt_mul'' ha hb
  obtain ⟨p, hpe⟩ : ∃ p, p = a * b := ⟨_, rfl⟩
  have e1 : (a : Int) * (b : Int) = (p : Int) := by rw [hpe]; simp
  have hdiv : p / b = a := by rw [hpe]; exact Nat.mul_div_cancel _ (by omega)
  have n1 : ((a : Int) == 0) = false := by simpa using h0
  have n2 : ((b : Int) == 0) = false := by simpa using h1
  have n3 : ((a : Int) == -9223372036854775808) = false := beq_false_of_ne (by omega)
  have n4 : ((b : Int) == -9223372036854775808) = false := beq_false_of_ne (by omega)
  have n5 : ¬ (b : Int) = 0 := by omega
  rw [← hpe] at hp ⊢
  by_cases h : p < 9223372036854775808
  · have e2 : IntKind.i64.wrap (p : Int) = (p : Int) := by rw [IntKind.wrap_i64]; omega
    have e3 : (p : Int) / (b : Int) = (a : Int) := by rw [← hdiv]; exact (Int.natCast_ediv p b).symm
    have HS := Lib.hid (show satN p = p by unfold satN; omega)
    clear hpe hdiv
    go_enter Try.func25, Try.ntmps25
    go_wp2_with fail
    go_ret
    exact ⟨ret_int (by rw [HS.out]), rfl⟩
  · have HS := Lib.hid (show satN p = 9223372036854775807 by unfold satN; omega)
    obtain ⟨q, hq⟩ : ∃ q, q = IntKind.i64.wrap (p : Int) := ⟨_, rfl⟩
    have e2 : IntKind.i64.wrap (p : Int) = q := hq.symm
    rw [IntKind.wrap_i64] at hq
    have hq1 : -9223372036854775808 ≤ q := by omega
    have hq2 : q < 9223372036854775808 := by omega
    have hq3 : q < p := by omega
    have n6 : (q.tdiv (b : Int) == (a : Int)) = false := beq_false_of_ne (fun e => by
      rcases Int.lt_or_le q 0 with hn | hn
      · have h3 : 0 ≤ (-q).tdiv (b : Int) := Int.tdiv_nonneg (by omega) (by omega)
        rw [Int.neg_tdiv] at h3
        omega
      · rw [Int.tdiv_eq_ediv_of_nonneg hn] at e
        have h4 := Int.ediv_mul_le q (b := (b : Int)) n5
        rw [e, e1] at h4
        omega)
    have d1 : decide ((a : Int) < 0) = false := decide_eq_false (by omega)
    have d2 : decide ((b : Int) < 0) = false := decide_eq_false (by omega)
    clear hpe hdiv hq hq3
    go_enter Try.func25, Try.ntmps25
    go_wp2_with fail
    refine (end_any w).mono ?_
    rintro e w' ⟨rfl, rfl⟩
    go_wp2_with fail
    go_ret
    exact ⟨ret_int (by rw [HS.out]; rfl), rfl⟩
end Go.Proofs.Yticcicdbncmfbaa
