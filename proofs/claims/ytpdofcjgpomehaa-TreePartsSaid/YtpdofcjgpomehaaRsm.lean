/- Contracts of the document's small functions: Least, Most, named, Own, Name, part. -/
import Derived.Test.YtpdofcjgpomehaaAm
import Derived.Test.YtpdofcjgpomehaaOps
namespace Go.Proofs.Ytpdofcjgpomehaa
open Go.RowKit

def leastF (op : Nat) : Nat := if op = 2 ∨ op = 3 ∨ (20 ≤ op ∧ op ≤ 26) ∨ op = 50 ∨ op = 51 ∨ op = 56 ∨ op = 57 then 0 else if op = 6 ∨ op = 7 ∨ (30 ≤ op ∧ op ≤ 42) then 2 else 1
def mostF (op : Nat) : Int := if op = 1 ∨ op = 3 ∨ op = 25 ∨ op = 50 ∨ op = 51 then -1 else if op = 6 then 3 else (leastF op : Nat)
def namedB (op : Nat) : Bool := decide (op = 1 ∨ op = 2 ∨ op = 4 ∨ op = 5 ∨ op = 26 ∨ op = 56 ∨ op = 50 ∨ op = 51)
theorem eqf {a : Nat} {c : Int} (h : (a : Int) ≠ c) : ((a : Int) == c) = false := by rw [beq_eq_false_iff_ne]; exact h
set_option maxHeartbeats 2000000 in
theorem named_any (op : Nat) (w : World) (h : op < 256) : Calls Try.prog 42 #[.int .u8 (op : Nat)] w fun e w' => e = .returned (.bool (namedB op)) ∧ w' = w := by
  by_cases hn : op = 1 ∨ op = 2 ∨ op = 4 ∨ op = 5 ∨ op = 26 ∨ op = 56 ∨ op = 50 ∨ op = 51
  · have HC := Lib.hid (show namedB op = true from decide_eq_true hn)
    rcases hn with h1 | h1 | h1 | h1 | h1 | h1 | h1 | h1
    all_goals
      subst h1
      go_enter Try.func42, Try.ntmps42
      go_wp2_with fail
      go_ret
      exact ⟨ret_bool HC.out.symm, rfl⟩
  · have HC := Lib.hid (show namedB op = false from decide_eq_false hn)
    have e1 := eqf (a := op) (c := 1) (by omega)
    have e2 := eqf (a := op) (c := 2) (by omega)
    have e4 := eqf (a := op) (c := 4) (by omega)
    have e5 := eqf (a := op) (c := 5) (by omega)
    have e26 := eqf (a := op) (c := 26) (by omega)
    have e56 := eqf (a := op) (c := 56) (by omega)
    have e50 := eqf (a := op) (c := 50) (by omega)
    have e51 := eqf (a := op) (c := 51) (by omega)
    clear hn
    go_enter Try.func42, Try.ntmps42
    go_wp2_with fail
    go_ret
    exact ⟨ret_bool HC.out.symm, rfl⟩
set_option maxHeartbeats 4000000 in
theorem least_any (op : Nat) (w : World) (h : op < 256) : Calls Try.prog 44 #[.int .u8 (op : Nat)] w fun e w' => e = .returned (.int .i64 (leastF op : Nat)) ∧ w' = w := by
  rcases (by omega : op = 2 ∨ op = 3 ∨ op = 50 ∨ op = 51 ∨ op = 56 ∨ op = 57 ∨ op = 6 ∨ op = 7 ∨ (20 ≤ op ∧ op ≤ 26) ∨ (30 ≤ op ∧ op ≤ 42) ∨ (op < 20 ∧ op ≠ 2 ∧ op ≠ 3 ∧ op ≠ 6 ∧ op ≠ 7) ∨ (27 ≤ op ∧ op ≤ 29) ∨ (43 ≤ op ∧ op ≠ 50 ∧ op ≠ 51 ∧ op ≠ 56 ∧ op ≠ 57)) with q | q | q | q | q | q | q | q | q | q | q | q | q
  · have HC := Lib.hid (show leastF op = 0 from if_pos (by omega))
    subst q
    rw [HC.out]
    go_enter Try.func44, Try.ntmps44
    go_wp2_with fail
    go_ret
    exact ⟨rfl, rfl⟩
  · have HC := Lib.hid (show leastF op = 0 from if_pos (by omega))
    subst q
    rw [HC.out]
    go_enter Try.func44, Try.ntmps44
    go_wp2_with fail
    go_ret
    exact ⟨rfl, rfl⟩
  · have HC := Lib.hid (show leastF op = 0 from if_pos (by omega))
    subst q
    rw [HC.out]
    go_enter Try.func44, Try.ntmps44
    go_wp2_with fail
    go_ret
    exact ⟨rfl, rfl⟩
  · have HC := Lib.hid (show leastF op = 0 from if_pos (by omega))
    subst q
    rw [HC.out]
    go_enter Try.func44, Try.ntmps44
    go_wp2_with fail
    go_ret
    exact ⟨rfl, rfl⟩
  · have HC := Lib.hid (show leastF op = 0 from if_pos (by omega))
    subst q
    rw [HC.out]
    go_enter Try.func44, Try.ntmps44
    go_wp2_with fail
    go_ret
    exact ⟨rfl, rfl⟩
  · have HC := Lib.hid (show leastF op = 0 from if_pos (by omega))
    subst q
    rw [HC.out]
    go_enter Try.func44, Try.ntmps44
    go_wp2_with fail
    go_ret
    exact ⟨rfl, rfl⟩
  · have HC := Lib.hid (show leastF op = 2 from (if_neg (by omega)).trans (if_pos (by omega)))
    subst q
    rw [HC.out]
    go_enter Try.func44, Try.ntmps44
    go_wp2_with fail
    go_ret
    exact ⟨rfl, rfl⟩
  · have HC := Lib.hid (show leastF op = 2 from (if_neg (by omega)).trans (if_pos (by omega)))
    subst q
    rw [HC.out]
    go_enter Try.func44, Try.ntmps44
    go_wp2_with fail
    go_ret
    exact ⟨rfl, rfl⟩
  · have HC := Lib.hid (show leastF op = 0 from if_pos (by omega))
    have e2 := eqf (a := op) (c := 2) (by omega)
    have e3 := eqf (a := op) (c := 3) (by omega)
    have e50 := eqf (a := op) (c := 50) (by omega)
    have e51 := eqf (a := op) (c := 51) (by omega)
    have e56 := eqf (a := op) (c := 56) (by omega)
    have e57 := eqf (a := op) (c := 57) (by omega)
    have e6 := eqf (a := op) (c := 6) (by omega)
    have e7 := eqf (a := op) (c := 7) (by omega)
    rw [HC.out]
    go_enter Try.func44, Try.ntmps44
    go_wp2_with fail
    go_ret
    exact ⟨rfl, rfl⟩
  · have HC := Lib.hid (show leastF op = 2 from (if_neg (by omega)).trans (if_pos (by omega)))
    have e2 := eqf (a := op) (c := 2) (by omega)
    have e3 := eqf (a := op) (c := 3) (by omega)
    have e50 := eqf (a := op) (c := 50) (by omega)
    have e51 := eqf (a := op) (c := 51) (by omega)
    have e56 := eqf (a := op) (c := 56) (by omega)
    have e57 := eqf (a := op) (c := 57) (by omega)
    have e6 := eqf (a := op) (c := 6) (by omega)
    have e7 := eqf (a := op) (c := 7) (by omega)
    rw [HC.out]
    go_enter Try.func44, Try.ntmps44
    go_wp2_with fail
    go_ret
    exact ⟨rfl, rfl⟩
  · have HC := Lib.hid (show leastF op = 1 from (if_neg (by omega)).trans (if_neg (by omega)))
    have e2 := eqf (a := op) (c := 2) (by omega)
    have e3 := eqf (a := op) (c := 3) (by omega)
    have e50 := eqf (a := op) (c := 50) (by omega)
    have e51 := eqf (a := op) (c := 51) (by omega)
    have e56 := eqf (a := op) (c := 56) (by omega)
    have e57 := eqf (a := op) (c := 57) (by omega)
    have e6 := eqf (a := op) (c := 6) (by omega)
    have e7 := eqf (a := op) (c := 7) (by omega)
    have q2 : op < 20 := by omega
    clear q
    rw [HC.out]
    go_enter Try.func44, Try.ntmps44
    go_wp2_with fail
    go_ret
    exact ⟨rfl, rfl⟩
  · have HC := Lib.hid (show leastF op = 1 from (if_neg (by omega)).trans (if_neg (by omega)))
    have e2 := eqf (a := op) (c := 2) (by omega)
    have e3 := eqf (a := op) (c := 3) (by omega)
    have e50 := eqf (a := op) (c := 50) (by omega)
    have e51 := eqf (a := op) (c := 51) (by omega)
    have e56 := eqf (a := op) (c := 56) (by omega)
    have e57 := eqf (a := op) (c := 57) (by omega)
    have e6 := eqf (a := op) (c := 6) (by omega)
    have e7 := eqf (a := op) (c := 7) (by omega)
    rw [HC.out]
    go_enter Try.func44, Try.ntmps44
    go_wp2_with fail
    go_ret
    exact ⟨rfl, rfl⟩
  · have HC := Lib.hid (show leastF op = 1 from (if_neg (by omega)).trans (if_neg (by omega)))
    have e2 := eqf (a := op) (c := 2) (by omega)
    have e3 := eqf (a := op) (c := 3) (by omega)
    have e50 := eqf (a := op) (c := 50) (by omega)
    have e51 := eqf (a := op) (c := 51) (by omega)
    have e56 := eqf (a := op) (c := 56) (by omega)
    have e57 := eqf (a := op) (c := 57) (by omega)
    have e6 := eqf (a := op) (c := 6) (by omega)
    have e7 := eqf (a := op) (c := 7) (by omega)
    have q2 : 43 ≤ op := by omega
    clear q
    rw [HC.out]
    go_enter Try.func44, Try.ntmps44
    go_wp2_with fail
    go_ret
    exact ⟨rfl, rfl⟩
set_option maxHeartbeats 4000000 in
theorem most_any (op : Nat) (w : World) (h : op < 256) : Calls Try.prog 45 #[.int .u8 (op : Nat)] w fun e w' => e = .returned (.int .i64 (mostF op)) ∧ w' = w := by
  rcases (by omega : op = 1 ∨ op = 3 ∨ op = 25 ∨ op = 50 ∨ op = 51 ∨ op = 6 ∨ (op ≠ 1 ∧ op ≠ 3 ∧ op ≠ 25 ∧ op ≠ 50 ∧ op ≠ 51 ∧ op ≠ 6)) with q | q | q | q | q | q | q
  · subst q
    have HC := Lib.hid (show mostF 1 = -1 from rfl)
    rw [HC.out]
    go_enter Try.func45, Try.ntmps45
    go_wp2_with fail
    go_ret
    exact ⟨rfl, rfl⟩
  · subst q
    have HC := Lib.hid (show mostF 3 = -1 from rfl)
    rw [HC.out]
    go_enter Try.func45, Try.ntmps45
    go_wp2_with fail
    go_ret
    exact ⟨rfl, rfl⟩
  · subst q
    have HC := Lib.hid (show mostF 25 = -1 from rfl)
    rw [HC.out]
    go_enter Try.func45, Try.ntmps45
    go_wp2_with fail
    go_ret
    exact ⟨rfl, rfl⟩
  · subst q
    have HC := Lib.hid (show mostF 50 = -1 from rfl)
    rw [HC.out]
    go_enter Try.func45, Try.ntmps45
    go_wp2_with fail
    go_ret
    exact ⟨rfl, rfl⟩
  · subst q
    have HC := Lib.hid (show mostF 51 = -1 from rfl)
    rw [HC.out]
    go_enter Try.func45, Try.ntmps45
    go_wp2_with fail
    go_ret
    exact ⟨rfl, rfl⟩
  · subst q
    have HC := Lib.hid (show mostF 6 = 3 from rfl)
    rw [HC.out]
    go_enter Try.func45, Try.ntmps45
    go_wp2_with fail
    go_ret
    exact ⟨rfl, rfl⟩
  · have HC := Lib.hid (show mostF op = (leastF op : Nat) from (if_neg (by omega)).trans (if_neg (by omega)))
    have e1 := eqf (a := op) (c := 1) (by omega)
    have e3 := eqf (a := op) (c := 3) (by omega)
    have e25 := eqf (a := op) (c := 25) (by omega)
    have e50 := eqf (a := op) (c := 50) (by omega)
    have e51 := eqf (a := op) (c := 51) (by omega)
    have e6 := eqf (a := op) (c := 6) (by omega)
    have HL := Lib.hid (least_any op w h)
    rw [HC.out]
    generalize leastF op = lf at *
    clear q
    go_enter Try.func45, Try.ntmps45
    go_wp2_with fail
    refine HL.out.mono ?_
    rintro e w2 ⟨rfl, hw2⟩
    rw [hw2]
    clear hw2 w2
    go_wp2_with fail
    go_ret
    exact ⟨rfl, rfl⟩
theorem most_pos {op : Nat} {f : Form} (h : formOf op = some f) (hm : 0 < f.most) (h1 : op ≠ 1) (h3 : op ≠ 3) (h6 : op ≠ 6) (h7 : op ≠ 7) (h53 : op ≠ 53) : f.prt = 40 := by
  have key : ∀ op, op < 58 → (formOf op).all (fun f => decide (f.most = 0) || decide (f.prt = 40) || decide (op = 1) || decide (op = 3) || decide (op = 6) || decide (op = 7) || decide (op = 53)) = true := by decide
  have hop := (forms_ok h).1
  have h2 := key op (by omega)
  rw [h] at h2
  simp [Option.all] at h2
  omega
set_option maxHeartbeats 4000000 in
theorem refPart_any (up i n op : Nat) (f : Form) (w : World) (hf : formOf up = some f) (hi : i < n) (hn : n ≤ f.most) (h : op < 256) :
    Calls Try.prog 32 #[.int .u8 (up : Nat), .int .i64 (i : Nat), .int .i64 (n : Nat), .int .u8 (op : Nat)] w fun e w' => e = .returned (.bool (prtB f.prt i n op)) ∧ w' = w := by
  have hfo := forms_ok hf
  have hup : up < 256 := by omega
  have hn2 : n ≤ 2048 := by omega
  have HS := Lib.hid (refStmt_any op w h)
  have HX := Lib.hid (refExpr_any op w h)
  rcases (by omega : up = 1 ∨ up = 3 ∨ up = 6 ∨ up = 7 ∨ up = 53 ∨ (up ≠ 1 ∧ up ≠ 3 ∧ up ≠ 6 ∧ up ≠ 7 ∧ up ≠ 53)) with q | q | q | q | q | q
  · subst q
    have hf2 : f = ⟨33, 1, 2048, 34⟩ := by injection hf with hf; exact hf.symm
    subst hf2
    dsimp only
    have HC : Hid (prtB 34 i n op = decide ((i + 1 < n ∧ op = 2) ∨ (i + 1 = n ∧ op = 3))) := rfl
    by_cases h1 : i + 1 = n
    · have d1 : ((i : Int) == (n : Int) - 1) = true := by rw [beq_iff_eq]; omega
      have HR := Lib.hid (show decide ((i + 1 < n ∧ op = 2) ∨ (i + 1 = n ∧ op = 3)) = ((op : Int) == 3) from by rw [Bool.eq_iff_iff, decide_eq_true_iff, beq_iff_eq]; omega)
      clear h1 hf hfo hn
      go_enter Try.func32, Try.ntmps32
      go_wp2_with fail
      go_ret
      exact ⟨ret_bool (by rw [HC.out, HR.out]), rfl⟩
    · have d1 : ((i : Int) == (n : Int) - 1) = false := by rw [beq_eq_false_iff_ne]; omega
      have HR := Lib.hid (show decide ((i + 1 < n ∧ op = 2) ∨ (i + 1 = n ∧ op = 3)) = ((op : Int) == 2) from by rw [Bool.eq_iff_iff, decide_eq_true_iff, beq_iff_eq]; omega)
      clear h1 hf hfo hn
      go_enter Try.func32, Try.ntmps32
      go_wp2_with fail
      go_ret
      exact ⟨ret_bool (by rw [HC.out, HR.out]), rfl⟩
  · subst q
    have hf2 : f = ⟨36, 0, 2048, 37⟩ := by injection hf with hf; exact hf.symm
    subst hf2
    dsimp only
    have HC : Hid (prtB 37 i n op = stmtB op) := rfl
    clear hf hfo hn
    go_enter Try.func32, Try.ntmps32
    go_wp2_with fail
    refine HS.out.mono ?_
    rintro e w2 ⟨rfl, hw2⟩
    rw [hw2]
    clear hw2 w2
    go_wp2_with fail
    go_ret
    exact ⟨ret_bool HC.out.symm, rfl⟩
  · subst q
    have hf2 : f = ⟨36, 2, 3, 38⟩ := by injection hf with hf; exact hf.symm
    subst hf2
    dsimp only
    have HC : Hid (prtB 38 i n op = (decide (i = 0) && exprB op || decide (0 < i ∧ op = 3))) := rfl
    by_cases h0 : 0 < i
    · have d1 : decide ((0 : Int) < (i : Int)) = true := decide_eq_true (by omega)
      have HR := Lib.hid (show (decide (i = 0) && exprB op || decide (0 < i ∧ op = 3)) = ((op : Int) == 3) from by
        rw [decide_eq_false (show ¬ i = 0 from by omega), Bool.false_and, Bool.false_or, Bool.eq_iff_iff, decide_eq_true_iff, beq_iff_eq]; omega)
      clear hf hfo hn
      go_enter Try.func32, Try.ntmps32
      go_wp2_with fail
      go_ret
      exact ⟨ret_bool (by rw [HC.out, HR.out]), rfl⟩
    · have d1 : decide ((0 : Int) < (i : Int)) = false := decide_eq_false (by omega)
      have HR := Lib.hid (show (decide (i = 0) && exprB op || decide (0 < i ∧ op = 3)) = exprB op from by
        rw [decide_eq_true (show i = 0 from by omega), decide_eq_false (show ¬ (0 < i ∧ op = 3) from by omega)]; simp)
      clear hf hfo hn
      go_enter Try.func32, Try.ntmps32
      go_wp2_with fail
      refine HX.out.mono ?_
      rintro e w2 ⟨rfl, hw2⟩
      rw [hw2]
      clear hw2 w2
      go_wp2_with fail
      go_ret
      exact ⟨ret_bool (by rw [HC.out, HR.out]), rfl⟩
  · subst q
    have hf2 : f = ⟨36, 2, 2, 38⟩ := by injection hf with hf; exact hf.symm
    subst hf2
    dsimp only
    have HC : Hid (prtB 38 i n op = (decide (i = 0) && exprB op || decide (0 < i ∧ op = 3))) := rfl
    by_cases h0 : 0 < i
    · have d1 : decide ((0 : Int) < (i : Int)) = true := decide_eq_true (by omega)
      have HR := Lib.hid (show (decide (i = 0) && exprB op || decide (0 < i ∧ op = 3)) = ((op : Int) == 3) from by
        rw [decide_eq_false (show ¬ i = 0 from by omega), Bool.false_and, Bool.false_or, Bool.eq_iff_iff, decide_eq_true_iff, beq_iff_eq]; omega)
      clear hf hfo hn
      go_enter Try.func32, Try.ntmps32
      go_wp2_with fail
      go_ret
      exact ⟨ret_bool (by rw [HC.out, HR.out]), rfl⟩
    · have d1 : decide ((0 : Int) < (i : Int)) = false := decide_eq_false (by omega)
      have HR := Lib.hid (show (decide (i = 0) && exprB op || decide (0 < i ∧ op = 3)) = exprB op from by
        rw [decide_eq_true (show i = 0 from by omega), decide_eq_false (show ¬ (0 < i ∧ op = 3) from by omega)]; simp)
      clear hf hfo hn
      go_enter Try.func32, Try.ntmps32
      go_wp2_with fail
      refine HX.out.mono ?_
      rintro e w2 ⟨rfl, hw2⟩
      rw [hw2]
      clear hw2 w2
      go_wp2_with fail
      go_ret
      exact ⟨ret_bool (by rw [HC.out, HR.out]), rfl⟩
  · subst q
    have hf2 : f = ⟨36, 1, 1, 41⟩ := by injection hf with hf; exact hf.symm
    subst hf2
    dsimp only
    have HC := Lib.hid (show prtB 41 i n op = ((op : Int) == 3) from by
      show decide (op = 3) = _
      rw [Bool.eq_iff_iff, decide_eq_true_iff, beq_iff_eq]; omega)
    clear hf hfo hn
    go_enter Try.func32, Try.ntmps32
    go_wp2_with fail
    go_ret
    exact ⟨ret_bool HC.out.symm, rfl⟩
  · have h40 := most_pos hf (by omega) q.1 q.2.1 q.2.2.1 q.2.2.2.1 q.2.2.2.2
    rw [h40]
    have HC : Hid (prtB 40 i n op = exprB op) := rfl
    have e1 := eqf (a := up) (c := 1) (by omega)
    have e3 := eqf (a := up) (c := 3) (by omega)
    have e6 := eqf (a := up) (c := 6) (by omega)
    have e7 := eqf (a := up) (c := 7) (by omega)
    have e53 := eqf (a := up) (c := 53) (by omega)
    clear q h40 hf hfo hn
    go_enter Try.func32, Try.ntmps32
    go_wp2_with fail
    refine HX.out.mono ?_
    rintro e w2 ⟨rfl, hw2⟩
    rw [hw2]
    clear hw2 w2
    go_wp2_with fail
    go_ret
    exact ⟨ret_bool HC.out.symm, rfl⟩
end Go.Proofs.Ytpdofcjgpomehaa
