/- Contracts of the small functions of tree: Expression, Statement, the texts' and the parts' functions; value.Name. -/
import Derived.Outline
import Derived.Test.YtpdofcjgpomehaaKw
import Derived.Test.YtpdofcjgpomehaaFrm
namespace Go.Proofs.Ytpdofcjgpomehaa
open Go.RowKit

def exprB (op : Nat) : Bool := decide (20 ≤ op ∧ op ≤ 26 ∨ 30 ≤ op ∧ op ≤ 48 ∨ 50 ≤ op ∧ op ≤ 57)
def stmtB (op : Nat) : Bool := decide (4 ≤ op ∧ op ≤ 11)
theorem expression_any (op : Nat) (w : World) (h : op < 256) : Calls Try.prog 8 #[.int .u8 (op : Nat)] w fun e w' => e = .returned (.bool (exprB op)) ∧ w' = w := by
  have HC : Hid (exprB op = decide (20 ≤ op ∧ op ≤ 26 ∨ 30 ≤ op ∧ op ≤ 48 ∨ 50 ≤ op ∧ op ≤ 57)) := rfl
  rcases (by omega : op < 20 ∨ (20 ≤ op ∧ op ≤ 26) ∨ (27 ≤ op ∧ op ≤ 29) ∨ (30 ≤ op ∧ op ≤ 48) ∨ op = 49 ∨ (50 ≤ op ∧ op ≤ 57) ∨ 58 ≤ op) with h1 | h1 | h1 | h1 | h1 | h1 | h1
  case inr.inr.inr.inr.inl =>
    subst h1
    go_enter Try.func8, Try.ntmps8
    go_wp2_with fail
    go_ret
    exact ⟨rfl, rfl⟩
  all_goals
    go_enter Try.func8, Try.ntmps8
    go_wp2_with fail
    go_ret
    exact ⟨ret_bool (by rw [HC.out]; first | (rw [decide_eq_true (by omega)]; done) | (rw [decide_eq_false (by omega)]; done)), rfl⟩
theorem statement_any (op : Nat) (w : World) (h : op < 256) : Calls Try.prog 10 #[.int .u8 (op : Nat)] w fun e w' => e = .returned (.bool (stmtB op)) ∧ w' = w := by
  have HC : Hid (stmtB op = decide (4 ≤ op ∧ op ≤ 11)) := rfl
  rcases (by omega : op < 4 ∨ (4 ≤ op ∧ op ≤ 11) ∨ 12 ≤ op) with h1 | h1 | h1
  all_goals
    go_enter Try.func10, Try.ntmps10
    go_wp2_with fail
    go_ret
    refine ⟨ret_bool ?_, rfl⟩
    rw [HC.out]
    first | (rw [decide_eq_decide]; omega) | (symm; rw [decide_eq_false_iff_not]; omega)
theorem empty_any (s : ByteArray) (w : World) : Calls Try.prog 36 #[.string s] w fun e w' => e = .returned (.bool s.toList.isEmpty) ∧ w' = w := by
  go_enter Try.func36, Try.ntmps36
  go_wp2_with fail
  go_ret
  exact ⟨by first | rfl | simp, rfl⟩
theorem short_any (s : ByteArray) (w : World) : Calls Try.prog 39 #[.string s] w fun e w' => e = .returned (.bool (decide (s.size ≤ 4095))) ∧ w' = w := by
  have HC := Lib.hid (show decide ((s.size : Int) ≤ 4095) = decide (s.size ≤ 4095) from by rw [decide_eq_decide]; omega)
  go_enter Try.func39, Try.ntmps39
  go_wp2_with fail
  go_ret
  exact ⟨ret_bool HC.out, rfl⟩
def prtB (p i n op : Nat) : Bool :=
  if p = 34 then decide ((i + 1 < n ∧ op = 2) ∨ (i + 1 = n ∧ op = 3)) else if p = 37 then stmtB op else if p = 38 then (decide (i = 0) && exprB op || decide (0 < i ∧ op = 3)) else if p = 40 then exprB op else if p = 41 then decide (op = 3) else false
theorem params_any (i n op : Nat) (w : World) (h : op < 256) (hi : i < n) (hn : n ≤ 9223372036854775807) : Calls Try.prog 34 #[.int .i64 (i : Nat), .int .i64 (n : Nat), .int .u8 (op : Nat)] w fun e w' => e = .returned (.bool (prtB 34 i n op)) ∧ w' = w := by
  have HC : Hid (prtB 34 i n op = decide ((i + 1 < n ∧ op = 2) ∨ (i + 1 = n ∧ op = 3))) := rfl
  by_cases h1 : i + 1 < n
  · have d1 : decide ((i : Int) < (n : Int) - 1) = true := decide_eq_true (by omega)
    have d2 : ((i : Int) == (n : Int) - 1) = false := by rw [beq_eq_false_iff_ne]; omega
    have HR := Lib.hid (show decide ((i + 1 < n ∧ op = 2) ∨ (i + 1 = n ∧ op = 3)) = decide (op = 2) from by rw [decide_eq_decide]; omega)
    by_cases h2 : op = 2
    · have d3 : ((op : Int) == 2) = true := by rw [h2]; rfl
      go_enter Try.func34, Try.ntmps34
      go_wp2_with fail
      go_ret
      exact ⟨ret_bool (by rw [HC.out, HR.out]; simp; omega), rfl⟩
    · have d3 : ((op : Int) == 2) = false := by rw [beq_eq_false_iff_ne]; omega
      go_enter Try.func34, Try.ntmps34
      go_wp2_with fail
      go_ret
      exact ⟨ret_bool (by rw [HC.out, HR.out]; simp; omega), rfl⟩
  · have d1 : decide ((i : Int) < (n : Int) - 1) = false := decide_eq_false (by omega)
    have d2 : ((i : Int) == (n : Int) - 1) = true := by rw [beq_iff_eq]; omega
    have HR := Lib.hid (show decide ((i + 1 < n ∧ op = 2) ∨ (i + 1 = n ∧ op = 3)) = ((op : Int) == 3) from by
      rw [Bool.eq_iff_iff, decide_eq_true_iff, beq_iff_eq]; omega)
    go_enter Try.func34, Try.ntmps34
    go_wp2_with fail
    go_ret
    exact ⟨ret_bool (by rw [HC.out, HR.out]), rfl⟩
theorem nothing_any (i n op : Nat) (w : World) : Calls Try.prog 35 #[.int .i64 (i : Nat), .int .i64 (n : Nat), .int .u8 (op : Nat)] w fun e w' => e = .returned (.bool (prtB 35 i n op)) ∧ w' = w := by
  have HC : Hid (prtB 35 i n op = false) := rfl
  go_enter Try.func35, Try.ntmps35
  go_wp2_with fail
  go_ret
  exact ⟨ret_bool HC.out.symm, rfl⟩
theorem stmt_any (i n op : Nat) (w : World) (h : op < 256) : Calls Try.prog 37 #[.int .i64 (i : Nat), .int .i64 (n : Nat), .int .u8 (op : Nat)] w fun e w' => e = .returned (.bool (prtB 37 i n op)) ∧ w' = w := by
  have HC : Hid (prtB 37 i n op = stmtB op) := rfl
  have HS := Lib.hid (statement_any op w h)
  go_enter Try.func37, Try.ntmps37
  go_wp2_with fail
  refine HS.out.mono ?_
  rintro e w2 ⟨rfl, rfl⟩
  go_wp2_with fail
  go_ret
  exact ⟨ret_bool HC.out.symm, rfl⟩
theorem expr_any (i n op : Nat) (w : World) (h : op < 256) : Calls Try.prog 40 #[.int .i64 (i : Nat), .int .i64 (n : Nat), .int .u8 (op : Nat)] w fun e w' => e = .returned (.bool (prtB 40 i n op)) ∧ w' = w := by
  have HC : Hid (prtB 40 i n op = exprB op) := rfl
  have HS := Lib.hid (expression_any op w h)
  go_enter Try.func40, Try.ntmps40
  go_wp2_with fail
  refine HS.out.mono ?_
  rintro e w2 ⟨rfl, rfl⟩
  go_wp2_with fail
  go_ret
  exact ⟨ret_bool HC.out.symm, rfl⟩
theorem block_any (i n op : Nat) (w : World) : Calls Try.prog 41 #[.int .i64 (i : Nat), .int .i64 (n : Nat), .int .u8 (op : Nat)] w fun e w' => e = .returned (.bool (prtB 41 i n op)) ∧ w' = w := by
  have HC := Lib.hid (show prtB 41 i n op = ((op : Int) == 3) from by
    show decide (op = 3) = _
    rw [Bool.eq_iff_iff, decide_eq_true_iff, beq_iff_eq]; omega)
  go_enter Try.func41, Try.ntmps41
  go_wp2_with fail
  go_ret
  exact ⟨ret_bool HC.out.symm, rfl⟩
theorem headed_any (i n op : Nat) (w : World) (h : op < 256) (hi : i ≤ 9223372036854775807) : Calls Try.prog 38 #[.int .i64 (i : Nat), .int .i64 (n : Nat), .int .u8 (op : Nat)] w fun e w' => e = .returned (.bool (prtB 38 i n op)) ∧ w' = w := by
  have HC : Hid (prtB 38 i n op = (decide (i = 0) && exprB op || decide (0 < i ∧ op = 3))) := rfl
  have HS := Lib.hid (expression_any op w h)
  by_cases h0 : i = 0
  · subst h0
    have HR := Lib.hid (show prtB 38 0 n op = exprB op from by rw [HC.out]; simp)
    generalize exprB op = q at *
    have d1 : (((0 : Nat) : Int) == 0) = true := rfl
    have d2 : decide ((0 : Int) < ((0 : Nat) : Int)) = false := rfl
    go_enter Try.func38, Try.ntmps38
    go_wp2_with fail
    refine HS.out.mono ?_
    rintro e w2 ⟨rfl, rfl⟩
    cases q
    · go_wp2_with fail
      go_ret
      exact ⟨ret_bool HR.out.symm, rfl⟩
    · go_wp2_with fail
      go_ret
      exact ⟨ret_bool HR.out.symm, rfl⟩
  · have d1 : ((i : Int) == 0) = false := by rw [beq_eq_false_iff_ne]; omega
    have d2 : decide ((0 : Int) < (i : Int)) = true := decide_eq_true (by omega)
    have HR := Lib.hid (show prtB 38 i n op = ((op : Int) == 3) from by
      rw [HC.out, decide_eq_false h0, Bool.false_and, Bool.false_or, Bool.eq_iff_iff, decide_eq_true_iff, beq_iff_eq]; omega)
    have hz : 0 < i := by omega
    clear h0
    go_enter Try.func38, Try.ntmps38
    go_wp2_with fail
    go_ret
    exact ⟨ret_bool HR.out.symm, rfl⟩
end Go.Proofs.Ytpdofcjgpomehaa
