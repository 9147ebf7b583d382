/- Contracts of the document's small functions: Least, Most, named, Own, Name, part. And what follows from it. -/
import Derived.Deep.QuietTactic
import Derived.BigQuiet
import Derived.Test.YtbcadlocldplfaaDoorQtb
import Derived.Test.YtbcadlocldplfaaDoorQte
import Derived.Test.YtbcadlocldplfaaDoorQt0
set_option maxHeartbeats 16000000
set_option linter.unusedSimpArgs false
set_option linter.unusedVariables false
namespace Go.Proofs.YtbcadlocldplfaaDoor.T8
open Go.Proofs.Tryd
set_option maxRecDepth 100000
open Go.RowKit
def leastF (op : Nat) : Nat := if op = 2 ∨ op = 3 ∨ (20 <= op ∧ op <= 26) ∨ op = 50 ∨ op = 51 ∨ op = 56 ∨ op = 57 then 0 else if op = 6 ∨ op = 7 ∨ (30 <= op ∧ op <= 42) then 2 else 1
def mostF (op : Nat) : Int := if op = 1 ∨ op = 3 ∨ op = 25 ∨ op = 50 ∨ op = 51 then -1 else if op = 6 then 3 else (leastF op : Nat)
def namedB (op : Nat) : Bool := decide (op = 1 ∨ op = 2 ∨ op = 4 ∨ op = 5 ∨ op = 26 ∨ op = 56 ∨ op = 50 ∨ op = 51)
theorem eqf {a : Nat} {c : Int} (h : (a : Int) ≠ c) : ((a : Int) == c) = false := by rw [bfn]; exact h
theorem named_any (op : Nat) (w : World) (h : op < 256) : Calls prog 96 #[.int .u8 (op : Nat)] w fun e w' => e = .returned (.bool (namedB op)) ∧ w' = w := by
 by_cases hn : op = 1 ∨ op = 2 ∨ op = 4 ∨ op = 5 ∨ op = 26 ∨ op = 56 ∨ op = 50 ∨ op = 51
 . have HC := zh (show namedB op = true from dqt hn)
   rcases hn with h1 | h1 | h1 | h1 | h1 | h1 | h1 | h1
   all_goals
    subst h1
    go_in
    go_wp2_with fail
    go_ret
    exact ⟨ret_bool HC.out.symm, rfl⟩
 . have HC := zh (show namedB op = false from dqf hn)
   have e1 := eqf (a := op) (c := 1) (by omega)
   have e2 := eqf (a := op) (c := 2) (by omega)
   have e4 := eqf (a := op) (c := 4) (by omega)
   have e5 := eqf (a := op) (c := 5) (by omega)
   have e26 := eqf (a := op) (c := 26) (by omega)
   have e56 := eqf (a := op) (c := 56) (by omega)
   have e50 := eqf (a := op) (c := 50) (by omega)
   have e51 := eqf (a := op) (c := 51) (by omega)
   clear hn
   go_in
   go_wp2_with fail
   go_ret
   exact ⟨ret_bool HC.out.symm, rfl⟩
theorem least_any (op : Nat) (w : World) (h : op < 256) : Calls prog 98 #[.int .u8 (op : Nat)] w fun e w' => e = .returned (.int .i64 (leastF op : Nat)) ∧ w' = w := by
 rcases (by omega : op = 2 ∨ op = 3 ∨ op = 50 ∨ op = 51 ∨ op = 56 ∨ op = 57 ∨ op = 6 ∨ op = 7 ∨ (20 <= op ∧ op <= 26) ∨ (30 <= op ∧ op <= 42) ∨ (op < 20 ∧ op ≠ 2 ∧ op ≠ 3 ∧ op ≠ 6 ∧ op ≠ 7) ∨ (27 <= op ∧ op <= 29) ∨ (43 <= op ∧ op ≠ 50 ∧ op ≠ 51 ∧ op ≠ 56 ∧ op ≠ 57)) with q | q | q | q | q | q | q | q | q | q | q | q | q
 . have HC := zh (show leastF op = 0 from if_pos (by omega))
   subst q
   rw [HC.out]
   go_in
   go_wp2_with fail
   go_ret
   exact ⟨rfl, rfl⟩
 . have HC := zh (show leastF op = 0 from if_pos (by omega))
   subst q
   rw [HC.out]
   go_in
   go_wp2_with fail
   go_ret
   exact ⟨rfl, rfl⟩
 . have HC := zh (show leastF op = 0 from if_pos (by omega))
   subst q
   rw [HC.out]
   go_in
   go_wp2_with fail
   go_ret
   exact ⟨rfl, rfl⟩
 . have HC := zh (show leastF op = 0 from if_pos (by omega))
   subst q
   rw [HC.out]
   go_in
   go_wp2_with fail
   go_ret
   exact ⟨rfl, rfl⟩
 . have HC := zh (show leastF op = 0 from if_pos (by omega))
   subst q
   rw [HC.out]
   go_in
   go_wp2_with fail
   go_ret
   exact ⟨rfl, rfl⟩
 . have HC := zh (show leastF op = 0 from if_pos (by omega))
   subst q
   rw [HC.out]
   go_in
   go_wp2_with fail
   go_ret
   exact ⟨rfl, rfl⟩
 . have HC := zh (show leastF op = 2 from (if_neg (by omega)).trans (if_pos (by omega)))
   subst q
   rw [HC.out]
   go_in
   go_wp2_with fail
   go_ret
   exact ⟨rfl, rfl⟩
 . have HC := zh (show leastF op = 2 from (if_neg (by omega)).trans (if_pos (by omega)))
   subst q
   rw [HC.out]
   go_in
   go_wp2_with fail
   go_ret
   exact ⟨rfl, rfl⟩
 . have HC := zh (show leastF op = 0 from if_pos (by omega))
   have e2 := eqf (a := op) (c := 2) (by omega)
   have e3 := eqf (a := op) (c := 3) (by omega)
   have e50 := eqf (a := op) (c := 50) (by omega)
   have e51 := eqf (a := op) (c := 51) (by omega)
   have e56 := eqf (a := op) (c := 56) (by omega)
   have e57 := eqf (a := op) (c := 57) (by omega)
   have e6 := eqf (a := op) (c := 6) (by omega)
   have e7 := eqf (a := op) (c := 7) (by omega)
   rw [HC.out]
   go_in
   go_wp2_with fail
   go_ret
   exact ⟨rfl, rfl⟩
 . have HC := zh (show leastF op = 2 from (if_neg (by omega)).trans (if_pos (by omega)))
   have e2 := eqf (a := op) (c := 2) (by omega)
   have e3 := eqf (a := op) (c := 3) (by omega)
   have e50 := eqf (a := op) (c := 50) (by omega)
   have e51 := eqf (a := op) (c := 51) (by omega)
   have e56 := eqf (a := op) (c := 56) (by omega)
   have e57 := eqf (a := op) (c := 57) (by omega)
   have e6 := eqf (a := op) (c := 6) (by omega)
   have e7 := eqf (a := op) (c := 7) (by omega)
   rw [HC.out]
   go_in
   go_wp2_with fail
   go_ret
   exact ⟨rfl, rfl⟩
 . have HC := zh (show leastF op = 1 from (if_neg (by omega)).trans (if_neg (by omega)))
   have e2 := eqf (a := op) (c := 2) (by omega)
   have e3 := eqf (a := op) (c := 3) (by omega)
   have e50 := eqf (a := op) (c := 50) (by omega)
   have e51 := eqf (a := op) (c := 51) (by omega)
   have e56 := eqf (a := op) (c := 56) (by omega)
   have e57 := eqf (a := op) (c := 57) (by omega)
   have e6 := eqf (a := op) (c := 6) (by omega)
   have e7 := eqf (a := op) (c := 7) (by omega)
   have q2 : op < 20 := by omega
   clear q
   rw [HC.out]
   go_in
   go_wp2_with fail
   go_ret
   exact ⟨rfl, rfl⟩
 . have HC := zh (show leastF op = 1 from (if_neg (by omega)).trans (if_neg (by omega)))
   have e2 := eqf (a := op) (c := 2) (by omega)
   have e3 := eqf (a := op) (c := 3) (by omega)
   have e50 := eqf (a := op) (c := 50) (by omega)
   have e51 := eqf (a := op) (c := 51) (by omega)
   have e56 := eqf (a := op) (c := 56) (by omega)
   have e57 := eqf (a := op) (c := 57) (by omega)
   have e6 := eqf (a := op) (c := 6) (by omega)
   have e7 := eqf (a := op) (c := 7) (by omega)
   rw [HC.out]
   go_in
   go_wp2_with fail
   go_ret
   exact ⟨rfl, rfl⟩
 . have HC := zh (show leastF op = 1 from (if_neg (by omega)).trans (if_neg (by omega)))
   have e2 := eqf (a := op) (c := 2) (by omega)
   have e3 := eqf (a := op) (c := 3) (by omega)
   have e50 := eqf (a := op) (c := 50) (by omega)
   have e51 := eqf (a := op) (c := 51) (by omega)
   have e56 := eqf (a := op) (c := 56) (by omega)
   have e57 := eqf (a := op) (c := 57) (by omega)
   have e6 := eqf (a := op) (c := 6) (by omega)
   have e7 := eqf (a := op) (c := 7) (by omega)
   have q2 : 43 <= op := by omega
   clear q
   rw [HC.out]
   go_in
   go_wp2_with fail
   go_ret
   exact ⟨rfl, rfl⟩
theorem most_any (op : Nat) (w : World) (h : op < 256) : Calls prog 99 #[.int .u8 (op : Nat)] w fun e w' => e = .returned (.int .i64 (mostF op)) ∧ w' = w := by
 rcases (by omega : op = 1 ∨ op = 3 ∨ op = 25 ∨ op = 50 ∨ op = 51 ∨ op = 6 ∨ (op ≠ 1 ∧ op ≠ 3 ∧ op ≠ 25 ∧ op ≠ 50 ∧ op ≠ 51 ∧ op ≠ 6)) with q | q | q | q | q | q | q
 . subst q
   have HC := zh (show mostF 1 = -1 from rfl)
   rw [HC.out]
   go_in
   go_wp2_with fail
   go_ret
   exact ⟨rfl, rfl⟩
 . subst q
   have HC := zh (show mostF 3 = -1 from rfl)
   rw [HC.out]
   go_in
   go_wp2_with fail
   go_ret
   exact ⟨rfl, rfl⟩
 . subst q
   have HC := zh (show mostF 25 = -1 from rfl)
   rw [HC.out]
   go_in
   go_wp2_with fail
   go_ret
   exact ⟨rfl, rfl⟩
 . subst q
   have HC := zh (show mostF 50 = -1 from rfl)
   rw [HC.out]
   go_in
   go_wp2_with fail
   go_ret
   exact ⟨rfl, rfl⟩
 . subst q
   have HC := zh (show mostF 51 = -1 from rfl)
   rw [HC.out]
   go_in
   go_wp2_with fail
   go_ret
   exact ⟨rfl, rfl⟩
 . subst q
   have HC := zh (show mostF 6 = 3 from rfl)
   rw [HC.out]
   go_in
   go_wp2_with fail
   go_ret
   exact ⟨rfl, rfl⟩
 . have HC := zh (show mostF op = (leastF op : Nat) from (if_neg (by omega)).trans (if_neg (by omega)))
   have e1 := eqf (a := op) (c := 1) (by omega)
   have e3 := eqf (a := op) (c := 3) (by omega)
   have e25 := eqf (a := op) (c := 25) (by omega)
   have e50 := eqf (a := op) (c := 50) (by omega)
   have e51 := eqf (a := op) (c := 51) (by omega)
   have e6 := eqf (a := op) (c := 6) (by omega)
   have HL := zh (least_any op w h)
   rw [HC.out]
   generalize leastF op = lf at *
   clear q
   go_in
   go_wp2_with fail
   refine HL.out.mono ?_
   rintro e w2 ⟨rfl, hw2⟩
   rw [hw2]
   clear hw2 w2
   go_wp2_with fail
   go_ret
   exact ⟨rfl, rfl⟩
theorem most_pos {op : Nat} {f : Form} (h : formOf op = some f) (hm : 0 < f.most) (h1 : op ≠ 1) (h3 : op ≠ 3) (h6 : op ≠ 6) (h7 : op ≠ 7) (h53 : op ≠ 53) : f.prt = 85 := by
 have key : ∀ op, op < 58 -> (formOf op).all (fun f => decide (f.most = 0) || decide (f.prt = 85) || decide (op = 1) || decide (op = 3) || decide (op = 6) || decide (op = 7) || decide (op = 53)) = true := by decide
 have hop := (forms_ok h).1
 have h2 := key op (by omega)
 rw [h] at h2
 simp [Option.all] at h2
 omega
theorem refPart_any (up i n op : Nat) (f : Form) (w : World) (hf : formOf up = some f) (hi : i < n) (hn : n <= f.most) (h : op < 256) :
 Calls prog 62 #[.int .u8 (up : Nat), .int .i64 (i : Nat), .int .i64 (n : Nat), .int .u8 (op : Nat)] w fun e w' => e = .returned (.bool (prtB f.prt i n op)) ∧ w' = w := by
 have hfo := forms_ok hf
 have hup : up < 256 := by omega
 have hn2 : n <= 2048 := by omega
 have HS := zh (refStmt_any op w h)
 have HX := zh (refExpr_any op w h)
 rcases (by omega : up = 1 ∨ up = 3 ∨ up = 6 ∨ up = 7 ∨ up = 53 ∨ (up ≠ 1 ∧ up ≠ 3 ∧ up ≠ 6 ∧ up ≠ 7 ∧ up ≠ 53)) with q | q | q | q | q | q
 . subst q
   have hf2 : f = ⟨78, 1, 2048, 79⟩ := by injection hf with hf; exact hf.symm
   subst hf2
   dsimp only
   have HC : Hid (prtB 79 i n op = decide ((i + 1 < n ∧ op = 2) ∨ (i + 1 = n ∧ op = 3))) := rfl
   by_cases h1 : i + 1 = n
   . have d1 : ((i : Int) == (n : Int) - 1) = true := by rw [beq_iff_eq]; omega
     have HR := zh (show decide ((i + 1 < n ∧ op = 2) ∨ (i + 1 = n ∧ op = 3)) = ((op : Int) == 3) from by rw [Bool.eq_iff_iff, decide_eq_true_iff, beq_iff_eq]; omega)
     clear h1 hf hfo hn
     go_in
     go_wp2_with fail
     go_ret
     exact ⟨ret_bool (by rw [HC.out, HR.out]), rfl⟩
   . have d1 : ((i : Int) == (n : Int) - 1) = false := by rw [bfn]; omega
     have HR := zh (show decide ((i + 1 < n ∧ op = 2) ∨ (i + 1 = n ∧ op = 3)) = ((op : Int) == 2) from by rw [Bool.eq_iff_iff, decide_eq_true_iff, beq_iff_eq]; omega)
     clear h1 hf hfo hn
     go_in
     go_wp2_with fail
     go_ret
     exact ⟨ret_bool (by rw [HC.out, HR.out]), rfl⟩
 . subst q
   have hf2 : f = ⟨81, 0, 2048, 82⟩ := by injection hf with hf; exact hf.symm
   subst hf2
   dsimp only
   have HC : Hid (prtB 82 i n op = stmtB op) := rfl
   clear hf hfo hn
   go_in
   go_wp2_with fail
   refine HS.out.mono ?_
   rintro e w2 ⟨rfl, hw2⟩
   rw [hw2]
   clear hw2 w2
   go_wp2_with fail
   go_ret
   exact ⟨ret_bool HC.out.symm, rfl⟩
 . subst q
   have hf2 : f = ⟨81, 2, 3, 83⟩ := by injection hf with hf; exact hf.symm
   subst hf2
   dsimp only
   have HC : Hid (prtB 83 i n op = (decide (i = 0) && exprB op || decide (0 < i ∧ op = 3))) := rfl
   by_cases h0 : 0 < i
   . have d1 : decide ((0 : Int) < (i : Int)) = true := dqt (by omega)
     have HR := zh (show (decide (i = 0) && exprB op || decide (0 < i ∧ op = 3)) = ((op : Int) == 3) from by
      rw [dqf (show ¬ i = 0 from by omega), Bool.false_and, Bool.false_or, Bool.eq_iff_iff, decide_eq_true_iff, beq_iff_eq]; omega)
     clear hf hfo hn
     go_in
     go_wp2_with fail
     go_ret
     exact ⟨ret_bool (by rw [HC.out, HR.out]), rfl⟩
   . have d1 : decide ((0 : Int) < (i : Int)) = false := dqf (by omega)
     have HR := zh (show (decide (i = 0) && exprB op || decide (0 < i ∧ op = 3)) = exprB op from by
      rw [dqt (show i = 0 from by omega), dqf (show ¬ (0 < i ∧ op = 3) from by omega)]; simp)
     clear hf hfo hn
     go_in
     go_wp2_with fail
     refine HX.out.mono ?_
     rintro e w2 ⟨rfl, hw2⟩
     rw [hw2]
     clear hw2 w2
     go_wp2_with fail
     go_ret
     exact ⟨ret_bool (by rw [HC.out, HR.out]), rfl⟩
 . subst q
   have hf2 : f = ⟨81, 2, 2, 83⟩ := by injection hf with hf; exact hf.symm
   subst hf2
   dsimp only
   have HC : Hid (prtB 83 i n op = (decide (i = 0) && exprB op || decide (0 < i ∧ op = 3))) := rfl
   by_cases h0 : 0 < i
   . have d1 : decide ((0 : Int) < (i : Int)) = true := dqt (by omega)
     have HR := zh (show (decide (i = 0) && exprB op || decide (0 < i ∧ op = 3)) = ((op : Int) == 3) from by
      rw [dqf (show ¬ i = 0 from by omega), Bool.false_and, Bool.false_or, Bool.eq_iff_iff, decide_eq_true_iff, beq_iff_eq]; omega)
     clear hf hfo hn
     go_in
     go_wp2_with fail
     go_ret
     exact ⟨ret_bool (by rw [HC.out, HR.out]), rfl⟩
   . have d1 : decide ((0 : Int) < (i : Int)) = false := dqf (by omega)
     have HR := zh (show (decide (i = 0) && exprB op || decide (0 < i ∧ op = 3)) = exprB op from by
      rw [dqt (show i = 0 from by omega), dqf (show ¬ (0 < i ∧ op = 3) from by omega)]; simp)
     clear hf hfo hn
     go_in
     go_wp2_with fail
     refine HX.out.mono ?_
     rintro e w2 ⟨rfl, hw2⟩
     rw [hw2]
     clear hw2 w2
     go_wp2_with fail
     go_ret
     exact ⟨ret_bool (by rw [HC.out, HR.out]), rfl⟩
 . subst q
   have hf2 : f = ⟨81, 1, 1, 86⟩ := by injection hf with hf; exact hf.symm
   subst hf2
   dsimp only
   have HC := zh (show prtB 86 i n op = ((op : Int) == 3) from by
    show decide (op = 3) = _
    rw [Bool.eq_iff_iff, decide_eq_true_iff, beq_iff_eq]; omega)
   clear hf hfo hn
   go_in
   go_wp2_with fail
   go_ret
   exact ⟨ret_bool HC.out.symm, rfl⟩
 . have h40 := most_pos hf (by omega) q.1 q.2.1 q.2.2.1 q.2.2.2.1 q.2.2.2.2
   rw [h40]
   have HC : Hid (prtB 85 i n op = exprB op) := rfl
   have e1 := eqf (a := up) (c := 1) (by omega)
   have e3 := eqf (a := up) (c := 3) (by omega)
   have e6 := eqf (a := up) (c := 6) (by omega)
   have e7 := eqf (a := up) (c := 7) (by omega)
   have e53 := eqf (a := up) (c := 53) (by omega)
   clear q h40 hf hfo hn
   go_in
   go_wp2_with fail
   refine HX.out.mono ?_
   rintro e w2 ⟨rfl, hw2⟩
   rw [hw2]
   clear hw2 w2
   go_wp2_with fail
   go_ret
   exact ⟨ret_bool HC.out.symm, rfl⟩
theorem fst_get {s : List UInt8} (h : 0 < s.length) : fstC s = decide (97 <= (s[0]'h).toNat ∧ (s[0]'h).toNat <= 122) := by
 cases s with
 | nil => simp at h
 | cons c tl => rfl
theorem refName_list (s : List UInt8) (w : World) (hs : s.length <= 9223372036854775807) : Calls prog 119 #[.string ⟨s.toArray⟩] w fun e w' => e = .returned (.bool (nameB s)) ∧ w' = w := by
 obtain ⟨st, hst⟩ : ∃ st : ByteArray, st = ⟨s.toArray⟩ := ⟨_, rfl⟩
 have hsz : st.size = s.length := by rw [hst]; rfl
 obtain ⟨n, hn⟩ := ex s.length
 rw [<- hst]
 rw [<- hn] at hsz hs
 have HST := zh hst
 have HN := zh hn
 have HB : Hid (nameB s = (decide (s.length <= 24) && fstC s && s.all inC)) := rfl
 obtain ⟨R, hR⟩ := ex (nameB s)
 rw [<- hR] at HB |-
 clear hst hn hR
 by_cases h0 : n < 1
 . have d0 : decide ((n : Int) < 1) = true := dqt (by omega)
   have HR := zh (show R = false from by
    have h : s = [] := List.eq_nil_of_length_eq_zero (by have := HN.out; omega)
    rw [HB.out, h]; rfl)
   go_in
   go_wp2_with fail
   go_ret
   exact ⟨ret_bool HR.out.symm, rfl⟩
 . have d0 : decide ((n : Int) < 1) = false := dqf (by omega)
   by_cases h24 : 24 < n
   . have d1 : decide ((24 : Int) < (n : Int)) = true := dqt (by omega)
     have HR := zh (show R = false from by rw [HB.out, dqf (by rw [<- HN.out]; omega)]; rfl)
     go_in
     go_wp2_with fail
     go_ret
     exact ⟨ret_bool HR.out.symm, rfl⟩
   . have d1 : decide ((24 : Int) < (n : Int)) = false := dqf (by omega)
     have HR := zh (show R = (fstC s && s.all inC) from by rw [HB.out, dqt (by rw [<- HN.out]; omega)]; rfl)
     clear HB
     go_in
     go_wp2_with fail
     go_loopw [3, 4, 5] (fun s3 s4 s5 wr => wr = w ∧ ∃ k : Nat, s3 = .int .i64 k ∧ k <= n ∧ (s.take k).all inC = true ∧ (0 < k -> fstC s = true)) (fun s3 _ _ _ => n - (intOf s3).toNat)
     case atStart => exact ⟨rfl, 0, rfl, by omega, rfl, fun h => by omega⟩
     case round =>
      obtain ⟨rfl, k, rfl, hkn, hall, hfst⟩ := hrel
      have HA := zh (ai hall hfst)
      clear hall hfst
      by_cases hlt : k < n
      . have hks : k < s.length := by rw [<- HN.out]; exact hlt
        obtain ⟨ch, hch⟩ : ∃ c, c = s[k] := ⟨_, rfl⟩
        have hkst : k < st.size := by omega
        have hg : st[k] = ch := by rw [hch]; exact st_get HST.out hkst hks
        have HCH := zh (show s.take (k + 1) = s.take k ++ [ch] from by rw [List.take_succ_eq_append_getElem hks, hch])
        have HBAD := zh (show inC ch = false -> s.all inC = false from fun h => by
         rw [List.all_eq_false]
         exact ⟨ch, by rw [hch]; exact List.getElem_mem hks, by rw [h]; simp⟩)
        have HFS := zh (show k = 0 -> fstC s = decide (97 <= ch.toNat ∧ ch.toNat <= 122) from fun h => by
         subst h
         rw [hch]
         exact fst_get hks)
        clear hch hks
        obtain ⟨x, hx⟩ : ∃ v, v = ch.toNat := ⟨_, rfl⟩
        have HI := zh (show inC ch = decide ((97 <= x ∧ x <= 122) ∨ (48 <= x ∧ x <= 57) ∨ x = 95) from by rw [hx]; rfl)
        have hx2 : st[k].toNat = x := by rw [hg, hx]
        rw [<- hx] at HFS
        clear hx hg
        have hk0 : (0 : Int) <= (k : Int) := by omega
        have hkn2 : (k : Int) < (n : Int) := by omega
        have hd1 : decide ((k : Int) < (n : Int)) = true := dqt hkn2
        rcases (by omega : x < 48 ∨ (48 <= x ∧ x <= 57) ∨ (58 <= x ∧ x <= 94) ∨ x = 95 ∨ x = 96 ∨ (97 <= x ∧ x <= 122) ∨ 123 <= x) with q | q | q | q | q | q | q
        . have f1 : decide ((97 : Int) <= (x : Int)) = false := dqf (by omega)
          have f2 : decide ((x : Int) <= 122) = true := dqt (by omega)
          have f3 : decide ((48 : Int) <= (x : Int)) = false := dqf (by omega)
          have f4 : decide ((x : Int) <= 57) = true := dqt (by omega)
          have f5 : ((x : Int) == 95) = false := by rw [bfn]; omega
          by_cases hkz : k = 0
          . have hkb : ((k : Int) == 0) = true := by rw [hkz]; rfl
            have HRF := zh (show R = false from by rw [HR.out, HFS.out hkz, dqf (by omega)]; rfl)
            clear hkz
            go_wp2_with fail
            go_ret
            exact ⟨ret_bool HRF.out.symm, rfl⟩
          . have hkb : ((k : Int) == 0) = false := by rw [bfn]; omega
            have HRF := zh (show R = false from by rw [HR.out, HBAD.out (by rw [HI.out, dqf (by omega)])]; simp)
            clear hkz
            go_wp2_with fail
            go_ret
            exact ⟨ret_bool HRF.out.symm, rfl⟩
        . have f1 : decide ((97 : Int) <= (x : Int)) = false := dqf (by omega)
          have f2 : decide ((x : Int) <= 122) = true := dqt (by omega)
          have f3 : decide ((48 : Int) <= (x : Int)) = true := dqt (by omega)
          have f4 : decide ((x : Int) <= 57) = true := dqt (by omega)
          have f5 : ((x : Int) == 95) = false := by rw [bfn]; omega
          by_cases hkz : k = 0
          . have hkb : ((k : Int) == 0) = true := by rw [hkz]; rfl
            have HRF := zh (show R = false from by rw [HR.out, HFS.out hkz, dqf (by omega)]; rfl)
            clear hkz
            go_wp2_with fail
            go_ret
            exact ⟨ret_bool HRF.out.symm, rfl⟩
          . have hkb : ((k : Int) == 0) = false := by rw [bfn]; omega
            have HIN := zh (show inC ch = true from by rw [HI.out, dqt (by omega)])
            have HF1 := zh (HA.out.2 (by omega))
            clear hkz
            go_wp2_with fail
            go_roundw
            case rel => exact ⟨trivial, k + 1, by go_num, by omega, by rw [HCH.out, List.all_append, HA.out.1, List.all_cons, HIN.out]; rfl, fun _ => HF1.out⟩
            case measure => simp [intOf]; omega
        . have f1 : decide ((97 : Int) <= (x : Int)) = false := dqf (by omega)
          have f2 : decide ((x : Int) <= 122) = true := dqt (by omega)
          have f3 : decide ((48 : Int) <= (x : Int)) = true := dqt (by omega)
          have f4 : decide ((x : Int) <= 57) = false := dqf (by omega)
          have f5 : ((x : Int) == 95) = false := by rw [bfn]; omega
          by_cases hkz : k = 0
          . have hkb : ((k : Int) == 0) = true := by rw [hkz]; rfl
            have HRF := zh (show R = false from by rw [HR.out, HFS.out hkz, dqf (by omega)]; rfl)
            clear hkz
            go_wp2_with fail
            go_ret
            exact ⟨ret_bool HRF.out.symm, rfl⟩
          . have hkb : ((k : Int) == 0) = false := by rw [bfn]; omega
            have HRF := zh (show R = false from by rw [HR.out, HBAD.out (by rw [HI.out, dqf (by omega)])]; simp)
            clear hkz
            go_wp2_with fail
            go_ret
            exact ⟨ret_bool HRF.out.symm, rfl⟩
        . have f1 : decide ((97 : Int) <= (x : Int)) = false := dqf (by omega)
          have f2 : decide ((x : Int) <= 122) = true := dqt (by omega)
          have f3 : decide ((48 : Int) <= (x : Int)) = true := dqt (by omega)
          have f4 : decide ((x : Int) <= 57) = false := dqf (by omega)
          have f5 : ((x : Int) == 95) = true := by rw [beq_iff_eq]; omega
          by_cases hkz : k = 0
          . have hkb : ((k : Int) == 0) = true := by rw [hkz]; rfl
            have HRF := zh (show R = false from by rw [HR.out, HFS.out hkz, dqf (by omega)]; rfl)
            clear hkz
            go_wp2_with fail
            go_ret
            exact ⟨ret_bool HRF.out.symm, rfl⟩
          . have hkb : ((k : Int) == 0) = false := by rw [bfn]; omega
            have HIN := zh (show inC ch = true from by rw [HI.out, dqt (by omega)])
            have HF1 := zh (HA.out.2 (by omega))
            clear hkz
            go_wp2_with fail
            go_roundw
            case rel => exact ⟨trivial, k + 1, by go_num, by omega, by rw [HCH.out, List.all_append, HA.out.1, List.all_cons, HIN.out]; rfl, fun _ => HF1.out⟩
            case measure => simp [intOf]; omega
        . have f1 : decide ((97 : Int) <= (x : Int)) = false := dqf (by omega)
          have f2 : decide ((x : Int) <= 122) = true := dqt (by omega)
          have f3 : decide ((48 : Int) <= (x : Int)) = true := dqt (by omega)
          have f4 : decide ((x : Int) <= 57) = false := dqf (by omega)
          have f5 : ((x : Int) == 95) = false := by rw [bfn]; omega
          by_cases hkz : k = 0
          . have hkb : ((k : Int) == 0) = true := by rw [hkz]; rfl
            have HRF := zh (show R = false from by rw [HR.out, HFS.out hkz, dqf (by omega)]; rfl)
            clear hkz
            go_wp2_with fail
            go_ret
            exact ⟨ret_bool HRF.out.symm, rfl⟩
          . have hkb : ((k : Int) == 0) = false := by rw [bfn]; omega
            have HRF := zh (show R = false from by rw [HR.out, HBAD.out (by rw [HI.out, dqf (by omega)])]; simp)
            clear hkz
            go_wp2_with fail
            go_ret
            exact ⟨ret_bool HRF.out.symm, rfl⟩
        . have f1 : decide ((97 : Int) <= (x : Int)) = true := dqt (by omega)
          have f2 : decide ((x : Int) <= 122) = true := dqt (by omega)
          have f3 : decide ((48 : Int) <= (x : Int)) = true := dqt (by omega)
          have f4 : decide ((x : Int) <= 57) = false := dqf (by omega)
          have f5 : ((x : Int) == 95) = false := by rw [bfn]; omega
          have HIN := zh (show inC ch = true from by rw [HI.out, dqt (by omega)])
          have HF1 := zh (show fstC s = true from by
           by_cases hk : k = 0
           . rw [HFS.out hk, dqt (by omega)]
           . exact HA.out.2 (by omega))
          by_cases hkz : k = 0
          . have hkb : ((k : Int) == 0) = true := by rw [hkz]; rfl
            clear hkz
            go_wp2_with fail
            go_roundw
            case rel => exact ⟨trivial, k + 1, by go_num, by omega, by rw [HCH.out, List.all_append, HA.out.1, List.all_cons, HIN.out]; rfl, fun _ => HF1.out⟩
            case measure => simp [intOf]; omega
          . have hkb : ((k : Int) == 0) = false := by rw [bfn]; omega
            clear hkz
            go_wp2_with fail
            go_roundw
            case rel => exact ⟨trivial, k + 1, by go_num, by omega, by rw [HCH.out, List.all_append, HA.out.1, List.all_cons, HIN.out]; rfl, fun _ => HF1.out⟩
            case measure => simp [intOf]; omega
        . have f1 : decide ((97 : Int) <= (x : Int)) = true := dqt (by omega)
          have f2 : decide ((x : Int) <= 122) = false := dqf (by omega)
          have f3 : decide ((48 : Int) <= (x : Int)) = true := dqt (by omega)
          have f4 : decide ((x : Int) <= 57) = false := dqf (by omega)
          have f5 : ((x : Int) == 95) = false := by rw [bfn]; omega
          by_cases hkz : k = 0
          . have hkb : ((k : Int) == 0) = true := by rw [hkz]; rfl
            have HRF := zh (show R = false from by rw [HR.out, HFS.out hkz, dqf (by omega)]; rfl)
            clear hkz
            go_wp2_with fail
            go_ret
            exact ⟨ret_bool HRF.out.symm, rfl⟩
          . have hkb : ((k : Int) == 0) = false := by rw [bfn]; omega
            have HRF := zh (show R = false from by rw [HR.out, HBAD.out (by rw [HI.out, dqf (by omega)])]; simp)
            clear hkz
            go_wp2_with fail
            go_ret
            exact ⟨ret_bool HRF.out.symm, rfl⟩
      . have hke : k = n := by omega
        have hd1 : decide ((k : Int) < (n : Int)) = false := dqf (by omega)
        have HRT := zh (show R = true from by
         have h := HA.out.1
         rw [List.take_of_length_le (by rw [<- HN.out]; omega)] at h
         rw [HR.out, h, HA.out.2 (by omega)]; rfl)
        clear hke
        go_wp2_with fail
        go_ret
        exact ⟨ret_bool HRT.out.symm, rfl⟩
theorem refName_any (s : ByteArray) (w : World) (hs : s.size <= 9223372036854775807) : Calls prog 119 #[.string s] w fun e w' => e = .returned (.bool (nameB s.toList)) ∧ w' = w := by
 have h := refName_list s.toList w (by rw [ByteArray.toList_eq]; exact hs)
 rw [show (⟨s.toList.toArray⟩ : ByteArray) = s by rw [ByteArray.toList_eq]] at h
 exact h
def fineR (x : Tw) : Bool :=
 (exprB x.op || stmtB x.op || decide (1 <= x.op ∧ x.op <= 3)) && ((if namedB x.op then (nameB x.text.toList && !kw x.text.toList) else if x.op = 24 then decide (x.text.size <= 4095) else x.text.toList.isEmpty) &&
  (decide (0 <= x.int ∧ (x.int = 0 ∨ x.op = 23)) && (decide ((leastF x.op : Int) <= x.kids) && decide (mostF x.op < 0 ∧ x.kids <= 2048 ∨ 0 <= mostF x.op ∧ x.kids <= mostF x.op))))
def tabOk (op : Nat) : Bool :=
 match formOf op with
 | none => !exprB op && !stmtB op && !decide (1 <= op ∧ op <= 3)
 | some f => (exprB op || stmtB op || decide (1 <= op ∧ op <= 3)) && decide (f.least = leastF op) && decide ((mostF op < 0 ∧ f.most = 2048) ∨ (0 <= mostF op ∧ mostF op = (f.most : Nat))) && decide ((namedB op = true ∧ f.txt = 78) ∨ (namedB op = false ∧ op = 24 ∧ f.txt = 84) ∨ (namedB op = false ∧ op ≠ 24 ∧ f.txt = 81))
theorem leastF_le (op : Nat) : leastF op <= 2 := by
 unfold leastF
 split
 . omega
 . split <;> omega
theorem fineR_eq (x : Tw) : fineR x = fineB x (fun _ => true) := by
 obtain ⟨op, kids, int, text⟩ := x
 unfold fineR fineB
 dsimp only
 by_cases hop : op < 58
 . have key : ∀ op, op < 58 -> tabOk op = true := by decide
   have h := key op hop
   unfold tabOk at h
   cases hf : formOf op with
   | none =>
    rw [hf] at h
    simp only [Bool.and_eq_true, Bool.not_eq_true', decide_eq_false_iff_not] at h
    rw [h.1.1, h.1.2, dqf h.2]
    rfl
   | some f =>
    rw [hf] at h
    simp only [Bool.and_eq_true, decide_eq_true_eq] at h
    obtain ⟨⟨⟨h1, h2⟩, h3⟩, h4⟩ := h
    rw [h1, Bool.true_and]
    dsimp only
    rw [h2]
    have e1 : (if namedB op = true then (nameB text.toList && !kw text.toList) else if op = 24 then decide (text.size <= 4095) else text.toList.isEmpty) = txtB f.txt text := by
     rcases h4 with ⟨a, b⟩ | ⟨a, b, c⟩ | ⟨a, b, c⟩
     . rw [a, b]; rfl
     . rw [a, c, b]; rfl
     . rw [a, c, if_neg (by simp), if_neg b]; rfl
    rw [e1]
    have e2 : decide (mostF op < 0 ∧ kids <= 2048 ∨ 0 <= mostF op ∧ kids <= mostF op) = decide (kids <= (f.most : Int)) := by
     rw [decide_eq_decide]; omega
    rw [e2]
    have e3 : decide (0 <= int ∧ (int = 0 ∨ op = 23)) = (decide (op = 23 ∨ int = 0) && decide (0 <= int)) := by
     rw [Bool.eq_iff_iff]; simp only [Bool.and_eq_true, decide_eq_true_eq]; omega
    rw [e3]
    cases decide ((leastF op : Int) <= kids) <;> cases decide (kids <= (f.most : Int)) <;> cases decide (op = 23 ∨ int = 0) <;> cases decide (0 <= int) <;> rfl
 . rw [formOf_big (by omega)]
   have h1 : exprB op = false := dqf (by omega)
   have h2 : stmtB op = false := dqf (by omega)
   rw [h1, h2, dqf (by omega)]
   rfl
theorem refOwn_any (s : ByteArray) (w : World) (hs : s.size <= 9223372036854775807) : Calls prog 97 #[.string s] w fun e w' => e = .returned (.bool (nameB s.toList && !kw s.toList)) ∧ Below w.heap.size w w' := by
 have HN := zh (refName_any s w hs)
 have HK := zh (refKeyword_any s w)
 generalize nameB s.toList = a at *
 generalize kw s.toList = b at *
 go_in
 go_wp2_with fail
 refine HN.out.mono ?_
 rintro e w2 ⟨rfl, hw2⟩
 rw [hw2]
 clear hw2 w2
 cases a
 . go_wp2_with fail
   go_ret
   exact ⟨rfl, Below.refl _ _⟩
 . go_wp2_with fail
   refine HK.out.mono ?_
   rintro e w2 ⟨rfl, hw2⟩
   have HB := zh (show Below w.heap.size w w2 from by rw [<- hw2]; exact (Below.refl _ _).alloc (nlr _) _)
   clear hw2
   go_wp2_with fail
   go_ret
   exact ⟨ret_bool (by simp), HB.out⟩
set_option maxRecDepth 100000 in
theorem refFine_1 (x : Tw) (w : World) (hx : TwOk x) (heb0 : exprB x.op = true) : Calls prog 61 #[.agg (twCells x)] w fun e w' => e = .returned (.bool (fineB x (fun _ => true))) ∧ Below w.heap.size w w' := by
 rw [<- fineR_eq]
 obtain ⟨op, kids, int, text⟩ := x
 obtain ⟨o1, o2, o3, o4, o5, o6⟩ := hx
 dsimp only at o1 o2 o3 o4 o5 o6 heb0
 have HBK := zh (Blk.new w 42 (twCells ⟨op, kids, int, text⟩))
 have HB0 := zh ((Below.refl w.heap.size w).alloc (nlr _) (.cells (twCells ⟨op, kids, int, text⟩) 42))
 have HE := zh (fun W => refExpr_any op W o1)
 have HS := zh (fun W => refStmt_any op W o1)
 have HN := zh (fun W => named_any op W o1)
 have HO := zh (fun W => refOwn_any text W (by unfold maxLen at o6; omega))
 have HL := zh (fun W => least_any op W o1)
 have HM := zh (fun W => most_any op W o1)
 obtain ⟨R, hR⟩ := ex (fineR ⟨op, kids, int, text⟩)
 rw [<- hR]
 unfold fineR at hR
 dsimp only at hR
 have HR := zh hR
 have o7 : text.size <= 9223372036854775807 := by unfold maxLen at o6; omega
 clear hR o6
 obtain ⟨lf, hlf⟩ : ∃ z, z = leastF op := ⟨_, rfl⟩
 have hlf2 : lf <= 2 := by rw [hlf]; exact leastF_le op
 obtain ⟨mf, hmf⟩ : ∃ z, z = mostF op := ⟨_, rfl⟩
 rw [<- hlf] at HR HL
 rw [<- hmf] at HR HM
 rw [heb0] at HR HE
 obtain ⟨sb, hsb⟩ : ∃ z, z = stmtB op := ⟨_, rfl⟩
 obtain ⟨nb, hnb⟩ : ∃ z, z = namedB op := ⟨_, rfl⟩
 obtain ⟨ob, hob⟩ : ∃ z, z = (nameB text.toList && !kw text.toList) := ⟨_, rfl⟩
 rw [<- hsb] at HR HS
 rw [<- hnb] at HR HN
 rw [<- hob] at HR HO
 clear hlf hmf heb0 hsb hnb hob
 dsimp only [twCells] at HBK HB0 |-
 go_in
 go_wp2_with fail
 generalize w.alloc (.cells #[.int .u8 (op : Nat), .int .i64 kids, .int .i64 int, .string text] 42) = w0 at *
 obtain ⟨bx, hbx⟩ : ∃ g, g = w.heap.size := ⟨_, rfl⟩
 rw [<- hbx] at HBK |-
 clear hbx
 have HX : Hid (Blk w0 bx 42 #[.int .u8 (op : Nat), .int .i64 kids, .int .i64 int, .string text]) := HBK.out
 have y0 : w0.cell? ⟨bx, 0, none⟩ = some (.int .u8 (op : Nat)) := HX.out.cell 0
 have y1 : w0.cell? ⟨bx, 1, none⟩ = some (.int .i64 kids) := HX.out.cell 1
 have y2 : w0.cell? ⟨bx, 2, none⟩ = some (.int .i64 int) := HX.out.cell 2
 have y3 : w0.cell? ⟨bx, 3, none⟩ = some (.string text) := HX.out.cell 3
 have HR0 := zh (show R = ((if nb = true then ob else if op = 24 then decide (text.size <= 4095) else text.toList.isEmpty) && (decide (0 <= int ∧ (int = 0 ∨ op = 23)) && (decide ((lf : Int) <= kids) && decide (mf < 0 ∧ kids <= 2048 ∨ 0 <= mf ∧ kids <= mf)))) from by rw [HR.out]; rfl)
 clear HR
 go_wp2_with fail
 refine (HE.out w0).mono ?_
 rintro e w9 ⟨rfl, hw9⟩
 rw [hw9]
 clear hw9 w9
 go_wp2_with fail
 refine (HN.out w0).mono ?_
 rintro e w9 ⟨rfl, hw9⟩
 rw [hw9]
 clear hw9 w9
 cases nb
 . by_cases h24 : op = 24
   . have d24 : ((op : Int) == 24) = true := by rw [h24]; rfl
     by_cases hsz : 4095 < text.size
     . have dsz : decide ((4095 : Int) < (text.size : Int)) = true := dqt (by omega)
       have HRF := zh (show R = false from by rw [HR0.out, if_neg (by simp), if_pos h24, dqf (by omega)]; rfl)
       clear h24
       go_wp2_with fail
       go_ret
       exact ⟨ret_bool (by rw [HRF.out]), HB0.out⟩
     . have dsz : decide ((4095 : Int) < (text.size : Int)) = false := dqf (by omega)
       have HR := zh (show R = (decide (0 <= int ∧ (int = 0 ∨ op = 23)) && (decide ((lf : Int) <= kids) && decide (mf < 0 ∧ kids <= 2048 ∨ 0 <= mf ∧ kids <= mf))) from by rw [HR0.out, if_neg (by simp), if_pos h24, dqt (show text.size <= 4095 from by omega), Bool.true_and])
       clear h24
       by_cases t1 : int < 0
       . have d1 : decide (int < 0) = true := dqt t1
         have HRF := zh (show R = false from by rw [HR.out, dqf (show ¬ (0 <= int ∧ (int = 0 ∨ op = 23)) from by omega)]; rfl)
         go_wp2_with fail
         go_ret
         exact ⟨ret_bool (by rw [HRF.out]), HB0.out⟩
       . have d1 : decide (int < 0) = false := dqf t1
         by_cases t2 : 0 < int ∧ op ≠ 23
         . obtain ⟨t3, t4⟩ := t2
           have d2 : decide (0 < int) = true := dqt t3
           have d3 : ((op : Int) != 23) = true := by rw [bne_iff_ne]; omega
           have HRF := zh (show R = false from by rw [HR.out, dqf (show ¬ (0 <= int ∧ (int = 0 ∨ op = 23)) from by omega)]; rfl)
           go_wp2_with fail
           go_ret
           exact ⟨ret_bool (by rw [HRF.out]), HB0.out⟩
         . have HR2 := zh (show R = (decide ((lf : Int) <= kids) && decide (mf < 0 ∧ kids <= 2048 ∨ 0 <= mf ∧ kids <= mf)) from by rw [HR.out, dqt (show 0 <= int ∧ (int = 0 ∨ op = 23) from by omega)]; rfl)
           clear HR
           have dd : ∃ u v : Bool, decide (0 < int) = u ∧ ((op : Int) != 23) = v ∧ (u && v) = false := by
            refine ⟨_, _, rfl, rfl, ?_⟩
            rw [Bool.and_eq_false_iff, decide_eq_false_iff_not, bne_eq_false_iff_eq]
            omega
           obtain ⟨u, v, hu, hv, huv⟩ := dd
           cases u
           . clear t1 t2
             by_cases k1 : (lf : Int) <= kids
             . have d4 : decide ((lf : Int) <= kids) = true := dqt k1
               by_cases m0 : mf < 0
               . have d5 : decide (mf < 0) = true := dqt m0
                 by_cases k2 : kids <= 2048
                 . have d6 : decide (kids <= 2048) = true := dqt k2
                   have HRV := zh (show R = true from by rw [HR2.out, d4, dqt (.inl ⟨m0, k2⟩)]; rfl)
                   go_wp2_with fail
                   go_quiet (first | (refine Calls.quiet_of_same (HL.out _)) | (refine Calls.quiet_of_same (HM.out _)))
                   go_wp2_with fail
                   go_ret
                   exact ⟨ret_bool (by rw [HRV.out]), below_drewN HB0.out nq⟩
                 . have d6 : decide (kids <= 2048) = false := dqf k2
                   have d7 : decide (kids <= mf) = false := dqf (by omega)
                   have HRV := zh (show R = false from by rw [HR2.out, dqf (show ¬ (mf < 0 ∧ kids <= 2048 ∨ 0 <= mf ∧ kids <= mf) from by omega), Bool.and_false])
                   go_wp2_with fail
                   go_quiet (first | (refine Calls.quiet_of_same (HL.out _)) | (refine Calls.quiet_of_same (HM.out _)))
                   go_wp2_with fail
                   go_ret
                   exact ⟨ret_bool (by rw [HRV.out]), below_drewN HB0.out nq⟩
               . have d5 : decide (mf < 0) = false := dqf m0
                 by_cases k2 : kids <= mf
                 . have d6 : decide (kids <= mf) = true := dqt k2
                   have HRV := zh (show R = true from by rw [HR2.out, d4, dqt (show mf < 0 ∧ kids <= 2048 ∨ 0 <= mf ∧ kids <= mf from by omega)]; rfl)
                   go_wp2_with fail
                   go_quiet (first | (refine Calls.quiet_of_same (HL.out _)) | (refine Calls.quiet_of_same (HM.out _)))
                   go_wp2_with fail
                   go_ret
                   exact ⟨ret_bool (by rw [HRV.out]), below_drewN HB0.out nq⟩
                 . have d6 : decide (kids <= mf) = false := dqf k2
                   have HRV := zh (show R = false from by rw [HR2.out, dqf (show ¬ (mf < 0 ∧ kids <= 2048 ∨ 0 <= mf ∧ kids <= mf) from by omega), Bool.and_false])
                   go_wp2_with fail
                   go_quiet (first | (refine Calls.quiet_of_same (HL.out _)) | (refine Calls.quiet_of_same (HM.out _)))
                   go_wp2_with fail
                   go_ret
                   exact ⟨ret_bool (by rw [HRV.out]), below_drewN HB0.out nq⟩
             . have d4 : decide ((lf : Int) <= kids) = false := dqf k1
               have HRV := zh (show R = false from by rw [HR2.out, d4]; rfl)
               go_wp2_with fail
               go_quiet (first | (refine Calls.quiet_of_same (HL.out _)) | (refine Calls.quiet_of_same (HM.out _)))
               go_wp2_with fail
               go_ret
               exact ⟨ret_bool (by rw [HRV.out]), below_drewN HB0.out nq⟩
           . cases v
             . clear t1 t2
               by_cases k1 : (lf : Int) <= kids
               . have d4 : decide ((lf : Int) <= kids) = true := dqt k1
                 by_cases m0 : mf < 0
                 . have d5 : decide (mf < 0) = true := dqt m0
                   by_cases k2 : kids <= 2048
                   . have d6 : decide (kids <= 2048) = true := dqt k2
                     have HRV := zh (show R = true from by rw [HR2.out, d4, dqt (.inl ⟨m0, k2⟩)]; rfl)
                     go_wp2_with fail
                     go_quiet (first | (refine Calls.quiet_of_same (HL.out _)) | (refine Calls.quiet_of_same (HM.out _)))
                     go_wp2_with fail
                     go_ret
                     exact ⟨ret_bool (by rw [HRV.out]), below_drewN HB0.out nq⟩
                   . have d6 : decide (kids <= 2048) = false := dqf k2
                     have d7 : decide (kids <= mf) = false := dqf (by omega)
                     have HRV := zh (show R = false from by rw [HR2.out, dqf (show ¬ (mf < 0 ∧ kids <= 2048 ∨ 0 <= mf ∧ kids <= mf) from by omega), Bool.and_false])
                     go_wp2_with fail
                     go_quiet (first | (refine Calls.quiet_of_same (HL.out _)) | (refine Calls.quiet_of_same (HM.out _)))
                     go_wp2_with fail
                     go_ret
                     exact ⟨ret_bool (by rw [HRV.out]), below_drewN HB0.out nq⟩
                 . have d5 : decide (mf < 0) = false := dqf m0
                   by_cases k2 : kids <= mf
                   . have d6 : decide (kids <= mf) = true := dqt k2
                     have HRV := zh (show R = true from by rw [HR2.out, d4, dqt (show mf < 0 ∧ kids <= 2048 ∨ 0 <= mf ∧ kids <= mf from by omega)]; rfl)
                     go_wp2_with fail
                     go_quiet (first | (refine Calls.quiet_of_same (HL.out _)) | (refine Calls.quiet_of_same (HM.out _)))
                     go_wp2_with fail
                     go_ret
                     exact ⟨ret_bool (by rw [HRV.out]), below_drewN HB0.out nq⟩
                   . have d6 : decide (kids <= mf) = false := dqf k2
                     have HRV := zh (show R = false from by rw [HR2.out, dqf (show ¬ (mf < 0 ∧ kids <= 2048 ∨ 0 <= mf ∧ kids <= mf) from by omega), Bool.and_false])
                     go_wp2_with fail
                     go_quiet (first | (refine Calls.quiet_of_same (HL.out _)) | (refine Calls.quiet_of_same (HM.out _)))
                     go_wp2_with fail
                     go_ret
                     exact ⟨ret_bool (by rw [HRV.out]), below_drewN HB0.out nq⟩
               . have d4 : decide ((lf : Int) <= kids) = false := dqf k1
                 have HRV := zh (show R = false from by rw [HR2.out, d4]; rfl)
                 go_wp2_with fail
                 go_quiet (first | (refine Calls.quiet_of_same (HL.out _)) | (refine Calls.quiet_of_same (HM.out _)))
                 go_wp2_with fail
                 go_ret
                 exact ⟨ret_bool (by rw [HRV.out]), below_drewN HB0.out nq⟩
             . cases huv
   . have d24 : ((op : Int) == 24) = false := eqf (by omega)
     cases hem : text.toList.isEmpty
     . have HRF := zh (show R = false from by rw [HR0.out, if_neg (by simp), if_neg h24, hem]; rfl)
       clear h24
       go_wp2_with fail
       go_ret
       exact ⟨ret_bool (by rw [HRF.out]), HB0.out⟩
     . have HR := zh (show R = (decide (0 <= int ∧ (int = 0 ∨ op = 23)) && (decide ((lf : Int) <= kids) && decide (mf < 0 ∧ kids <= 2048 ∨ 0 <= mf ∧ kids <= mf))) from by rw [HR0.out, if_neg (by simp), if_neg h24, hem, Bool.true_and])
       clear h24
       by_cases t1 : int < 0
       . have d1 : decide (int < 0) = true := dqt t1
         have HRF := zh (show R = false from by rw [HR.out, dqf (show ¬ (0 <= int ∧ (int = 0 ∨ op = 23)) from by omega)]; rfl)
         go_wp2_with fail
         go_ret
         exact ⟨ret_bool (by rw [HRF.out]), HB0.out⟩
       . have d1 : decide (int < 0) = false := dqf t1
         by_cases t2 : 0 < int ∧ op ≠ 23
         . obtain ⟨t3, t4⟩ := t2
           have d2 : decide (0 < int) = true := dqt t3
           have d3 : ((op : Int) != 23) = true := by rw [bne_iff_ne]; omega
           have HRF := zh (show R = false from by rw [HR.out, dqf (show ¬ (0 <= int ∧ (int = 0 ∨ op = 23)) from by omega)]; rfl)
           go_wp2_with fail
           go_ret
           exact ⟨ret_bool (by rw [HRF.out]), HB0.out⟩
         . have HR2 := zh (show R = (decide ((lf : Int) <= kids) && decide (mf < 0 ∧ kids <= 2048 ∨ 0 <= mf ∧ kids <= mf)) from by rw [HR.out, dqt (show 0 <= int ∧ (int = 0 ∨ op = 23) from by omega)]; rfl)
           clear HR
           have dd : ∃ u v : Bool, decide (0 < int) = u ∧ ((op : Int) != 23) = v ∧ (u && v) = false := by
            refine ⟨_, _, rfl, rfl, ?_⟩
            rw [Bool.and_eq_false_iff, decide_eq_false_iff_not, bne_eq_false_iff_eq]
            omega
           obtain ⟨u, v, hu, hv, huv⟩ := dd
           cases u
           . clear t1 t2
             by_cases k1 : (lf : Int) <= kids
             . have d4 : decide ((lf : Int) <= kids) = true := dqt k1
               by_cases m0 : mf < 0
               . have d5 : decide (mf < 0) = true := dqt m0
                 by_cases k2 : kids <= 2048
                 . have d6 : decide (kids <= 2048) = true := dqt k2
                   have HRV := zh (show R = true from by rw [HR2.out, d4, dqt (.inl ⟨m0, k2⟩)]; rfl)
                   go_wp2_with fail
                   go_quiet (first | (refine Calls.quiet_of_same (HL.out _)) | (refine Calls.quiet_of_same (HM.out _)))
                   go_wp2_with fail
                   go_ret
                   exact ⟨ret_bool (by rw [HRV.out]), below_drewN HB0.out nq⟩
                 . have d6 : decide (kids <= 2048) = false := dqf k2
                   have d7 : decide (kids <= mf) = false := dqf (by omega)
                   have HRV := zh (show R = false from by rw [HR2.out, dqf (show ¬ (mf < 0 ∧ kids <= 2048 ∨ 0 <= mf ∧ kids <= mf) from by omega), Bool.and_false])
                   go_wp2_with fail
                   go_quiet (first | (refine Calls.quiet_of_same (HL.out _)) | (refine Calls.quiet_of_same (HM.out _)))
                   go_wp2_with fail
                   go_ret
                   exact ⟨ret_bool (by rw [HRV.out]), below_drewN HB0.out nq⟩
               . have d5 : decide (mf < 0) = false := dqf m0
                 by_cases k2 : kids <= mf
                 . have d6 : decide (kids <= mf) = true := dqt k2
                   have HRV := zh (show R = true from by rw [HR2.out, d4, dqt (show mf < 0 ∧ kids <= 2048 ∨ 0 <= mf ∧ kids <= mf from by omega)]; rfl)
                   go_wp2_with fail
                   go_quiet (first | (refine Calls.quiet_of_same (HL.out _)) | (refine Calls.quiet_of_same (HM.out _)))
                   go_wp2_with fail
                   go_ret
                   exact ⟨ret_bool (by rw [HRV.out]), below_drewN HB0.out nq⟩
                 . have d6 : decide (kids <= mf) = false := dqf k2
                   have HRV := zh (show R = false from by rw [HR2.out, dqf (show ¬ (mf < 0 ∧ kids <= 2048 ∨ 0 <= mf ∧ kids <= mf) from by omega), Bool.and_false])
                   go_wp2_with fail
                   go_quiet (first | (refine Calls.quiet_of_same (HL.out _)) | (refine Calls.quiet_of_same (HM.out _)))
                   go_wp2_with fail
                   go_ret
                   exact ⟨ret_bool (by rw [HRV.out]), below_drewN HB0.out nq⟩
             . have d4 : decide ((lf : Int) <= kids) = false := dqf k1
               have HRV := zh (show R = false from by rw [HR2.out, d4]; rfl)
               go_wp2_with fail
               go_quiet (first | (refine Calls.quiet_of_same (HL.out _)) | (refine Calls.quiet_of_same (HM.out _)))
               go_wp2_with fail
               go_ret
               exact ⟨ret_bool (by rw [HRV.out]), below_drewN HB0.out nq⟩
           . cases v
             . clear t1 t2
               by_cases k1 : (lf : Int) <= kids
               . have d4 : decide ((lf : Int) <= kids) = true := dqt k1
                 by_cases m0 : mf < 0
                 . have d5 : decide (mf < 0) = true := dqt m0
                   by_cases k2 : kids <= 2048
                   . have d6 : decide (kids <= 2048) = true := dqt k2
                     have HRV := zh (show R = true from by rw [HR2.out, d4, dqt (.inl ⟨m0, k2⟩)]; rfl)
                     go_wp2_with fail
                     go_quiet (first | (refine Calls.quiet_of_same (HL.out _)) | (refine Calls.quiet_of_same (HM.out _)))
                     go_wp2_with fail
                     go_ret
                     exact ⟨ret_bool (by rw [HRV.out]), below_drewN HB0.out nq⟩
                   . have d6 : decide (kids <= 2048) = false := dqf k2
                     have d7 : decide (kids <= mf) = false := dqf (by omega)
                     have HRV := zh (show R = false from by rw [HR2.out, dqf (show ¬ (mf < 0 ∧ kids <= 2048 ∨ 0 <= mf ∧ kids <= mf) from by omega), Bool.and_false])
                     go_wp2_with fail
                     go_quiet (first | (refine Calls.quiet_of_same (HL.out _)) | (refine Calls.quiet_of_same (HM.out _)))
                     go_wp2_with fail
                     go_ret
                     exact ⟨ret_bool (by rw [HRV.out]), below_drewN HB0.out nq⟩
                 . have d5 : decide (mf < 0) = false := dqf m0
                   by_cases k2 : kids <= mf
                   . have d6 : decide (kids <= mf) = true := dqt k2
                     have HRV := zh (show R = true from by rw [HR2.out, d4, dqt (show mf < 0 ∧ kids <= 2048 ∨ 0 <= mf ∧ kids <= mf from by omega)]; rfl)
                     go_wp2_with fail
                     go_quiet (first | (refine Calls.quiet_of_same (HL.out _)) | (refine Calls.quiet_of_same (HM.out _)))
                     go_wp2_with fail
                     go_ret
                     exact ⟨ret_bool (by rw [HRV.out]), below_drewN HB0.out nq⟩
                   . have d6 : decide (kids <= mf) = false := dqf k2
                     have HRV := zh (show R = false from by rw [HR2.out, dqf (show ¬ (mf < 0 ∧ kids <= 2048 ∨ 0 <= mf ∧ kids <= mf) from by omega), Bool.and_false])
                     go_wp2_with fail
                     go_quiet (first | (refine Calls.quiet_of_same (HL.out _)) | (refine Calls.quiet_of_same (HM.out _)))
                     go_wp2_with fail
                     go_ret
                     exact ⟨ret_bool (by rw [HRV.out]), below_drewN HB0.out nq⟩
               . have d4 : decide ((lf : Int) <= kids) = false := dqf k1
                 have HRV := zh (show R = false from by rw [HR2.out, d4]; rfl)
                 go_wp2_with fail
                 go_quiet (first | (refine Calls.quiet_of_same (HL.out _)) | (refine Calls.quiet_of_same (HM.out _)))
                 go_wp2_with fail
                 go_ret
                 exact ⟨ret_bool (by rw [HRV.out]), below_drewN HB0.out nq⟩
             . cases huv
 . go_wp2_with fail
   refine (HO.out w0).mono ?_
   rintro e w5 ⟨rfl, hb5⟩
   have HX5 := zh (HX.out.below hb5 HX.out.lt)
   have HB5 := zh (HB0.out.trans (hb5.mono HB0.out.size))
   have z0 : w5.cell? ⟨bx, 0, none⟩ = some (.int .u8 (op : Nat)) := HX5.out.cell 0
   have z1 : w5.cell? ⟨bx, 1, none⟩ = some (.int .i64 kids) := HX5.out.cell 1
   have z2 : w5.cell? ⟨bx, 2, none⟩ = some (.int .i64 int) := HX5.out.cell 2
   have z3 : w5.cell? ⟨bx, 3, none⟩ = some (.string text) := HX5.out.cell 3
   clear hb5 y0 y1 y2 y3
   cases ob
   . have HRF := zh (show R = false from by rw [HR0.out]; rfl)
     go_wp2_with fail
     go_ret
     exact ⟨ret_bool (by rw [HRF.out]), HB5.out⟩
   . have HR := zh (show R = (decide (0 <= int ∧ (int = 0 ∨ op = 23)) && (decide ((lf : Int) <= kids) && decide (mf < 0 ∧ kids <= 2048 ∨ 0 <= mf ∧ kids <= mf))) from by rw [HR0.out]; rfl)
     by_cases t1 : int < 0
     . have d1 : decide (int < 0) = true := dqt t1
       have HRF := zh (show R = false from by rw [HR.out, dqf (show ¬ (0 <= int ∧ (int = 0 ∨ op = 23)) from by omega)]; rfl)
       go_wp2_with fail
       go_ret
       exact ⟨ret_bool (by rw [HRF.out]), HB5.out⟩
     . have d1 : decide (int < 0) = false := dqf t1
       by_cases t2 : 0 < int ∧ op ≠ 23
       . obtain ⟨t3, t4⟩ := t2
         have d2 : decide (0 < int) = true := dqt t3
         have d3 : ((op : Int) != 23) = true := by rw [bne_iff_ne]; omega
         have HRF := zh (show R = false from by rw [HR.out, dqf (show ¬ (0 <= int ∧ (int = 0 ∨ op = 23)) from by omega)]; rfl)
         go_wp2_with fail
         go_ret
         exact ⟨ret_bool (by rw [HRF.out]), HB5.out⟩
       . have HR2 := zh (show R = (decide ((lf : Int) <= kids) && decide (mf < 0 ∧ kids <= 2048 ∨ 0 <= mf ∧ kids <= mf)) from by rw [HR.out, dqt (show 0 <= int ∧ (int = 0 ∨ op = 23) from by omega)]; rfl)
         clear HR
         have dd : ∃ u v : Bool, decide (0 < int) = u ∧ ((op : Int) != 23) = v ∧ (u && v) = false := by
          refine ⟨_, _, rfl, rfl, ?_⟩
          rw [Bool.and_eq_false_iff, decide_eq_false_iff_not, bne_eq_false_iff_eq]
          omega
         obtain ⟨u, v, hu, hv, huv⟩ := dd
         cases u
         . clear t1 t2
           by_cases k1 : (lf : Int) <= kids
           . have d4 : decide ((lf : Int) <= kids) = true := dqt k1
             by_cases m0 : mf < 0
             . have d5 : decide (mf < 0) = true := dqt m0
               by_cases k2 : kids <= 2048
               . have d6 : decide (kids <= 2048) = true := dqt k2
                 have HRV := zh (show R = true from by rw [HR2.out, d4, dqt (.inl ⟨m0, k2⟩)]; rfl)
                 go_wp2_with fail
                 go_quiet (first | (refine Calls.quiet_of_same (HL.out _)) | (refine Calls.quiet_of_same (HM.out _)))
                 go_wp2_with fail
                 go_ret
                 exact ⟨ret_bool (by rw [HRV.out]), below_drewN HB5.out nq⟩
               . have d6 : decide (kids <= 2048) = false := dqf k2
                 have d7 : decide (kids <= mf) = false := dqf (by omega)
                 have HRV := zh (show R = false from by rw [HR2.out, dqf (show ¬ (mf < 0 ∧ kids <= 2048 ∨ 0 <= mf ∧ kids <= mf) from by omega), Bool.and_false])
                 go_wp2_with fail
                 go_quiet (first | (refine Calls.quiet_of_same (HL.out _)) | (refine Calls.quiet_of_same (HM.out _)))
                 go_wp2_with fail
                 go_ret
                 exact ⟨ret_bool (by rw [HRV.out]), below_drewN HB5.out nq⟩
             . have d5 : decide (mf < 0) = false := dqf m0
               by_cases k2 : kids <= mf
               . have d6 : decide (kids <= mf) = true := dqt k2
                 have HRV := zh (show R = true from by rw [HR2.out, d4, dqt (show mf < 0 ∧ kids <= 2048 ∨ 0 <= mf ∧ kids <= mf from by omega)]; rfl)
                 go_wp2_with fail
                 go_quiet (first | (refine Calls.quiet_of_same (HL.out _)) | (refine Calls.quiet_of_same (HM.out _)))
                 go_wp2_with fail
                 go_ret
                 exact ⟨ret_bool (by rw [HRV.out]), below_drewN HB5.out nq⟩
               . have d6 : decide (kids <= mf) = false := dqf k2
                 have HRV := zh (show R = false from by rw [HR2.out, dqf (show ¬ (mf < 0 ∧ kids <= 2048 ∨ 0 <= mf ∧ kids <= mf) from by omega), Bool.and_false])
                 go_wp2_with fail
                 go_quiet (first | (refine Calls.quiet_of_same (HL.out _)) | (refine Calls.quiet_of_same (HM.out _)))
                 go_wp2_with fail
                 go_ret
                 exact ⟨ret_bool (by rw [HRV.out]), below_drewN HB5.out nq⟩
           . have d4 : decide ((lf : Int) <= kids) = false := dqf k1
             have HRV := zh (show R = false from by rw [HR2.out, d4]; rfl)
             go_wp2_with fail
             go_quiet (first | (refine Calls.quiet_of_same (HL.out _)) | (refine Calls.quiet_of_same (HM.out _)))
             go_wp2_with fail
             go_ret
             exact ⟨ret_bool (by rw [HRV.out]), below_drewN HB5.out nq⟩
         . cases v
           . clear t1 t2
             by_cases k1 : (lf : Int) <= kids
             . have d4 : decide ((lf : Int) <= kids) = true := dqt k1
               by_cases m0 : mf < 0
               . have d5 : decide (mf < 0) = true := dqt m0
                 by_cases k2 : kids <= 2048
                 . have d6 : decide (kids <= 2048) = true := dqt k2
                   have HRV := zh (show R = true from by rw [HR2.out, d4, dqt (.inl ⟨m0, k2⟩)]; rfl)
                   go_wp2_with fail
                   go_quiet (first | (refine Calls.quiet_of_same (HL.out _)) | (refine Calls.quiet_of_same (HM.out _)))
                   go_wp2_with fail
                   go_ret
                   exact ⟨ret_bool (by rw [HRV.out]), below_drewN HB5.out nq⟩
                 . have d6 : decide (kids <= 2048) = false := dqf k2
                   have d7 : decide (kids <= mf) = false := dqf (by omega)
                   have HRV := zh (show R = false from by rw [HR2.out, dqf (show ¬ (mf < 0 ∧ kids <= 2048 ∨ 0 <= mf ∧ kids <= mf) from by omega), Bool.and_false])
                   go_wp2_with fail
                   go_quiet (first | (refine Calls.quiet_of_same (HL.out _)) | (refine Calls.quiet_of_same (HM.out _)))
                   go_wp2_with fail
                   go_ret
                   exact ⟨ret_bool (by rw [HRV.out]), below_drewN HB5.out nq⟩
               . have d5 : decide (mf < 0) = false := dqf m0
                 by_cases k2 : kids <= mf
                 . have d6 : decide (kids <= mf) = true := dqt k2
                   have HRV := zh (show R = true from by rw [HR2.out, d4, dqt (show mf < 0 ∧ kids <= 2048 ∨ 0 <= mf ∧ kids <= mf from by omega)]; rfl)
                   go_wp2_with fail
                   go_quiet (first | (refine Calls.quiet_of_same (HL.out _)) | (refine Calls.quiet_of_same (HM.out _)))
                   go_wp2_with fail
                   go_ret
                   exact ⟨ret_bool (by rw [HRV.out]), below_drewN HB5.out nq⟩
                 . have d6 : decide (kids <= mf) = false := dqf k2
                   have HRV := zh (show R = false from by rw [HR2.out, dqf (show ¬ (mf < 0 ∧ kids <= 2048 ∨ 0 <= mf ∧ kids <= mf) from by omega), Bool.and_false])
                   go_wp2_with fail
                   go_quiet (first | (refine Calls.quiet_of_same (HL.out _)) | (refine Calls.quiet_of_same (HM.out _)))
                   go_wp2_with fail
                   go_ret
                   exact ⟨ret_bool (by rw [HRV.out]), below_drewN HB5.out nq⟩
             . have d4 : decide ((lf : Int) <= kids) = false := dqf k1
               have HRV := zh (show R = false from by rw [HR2.out, d4]; rfl)
               go_wp2_with fail
               go_quiet (first | (refine Calls.quiet_of_same (HL.out _)) | (refine Calls.quiet_of_same (HM.out _)))
               go_wp2_with fail
               go_ret
               exact ⟨ret_bool (by rw [HRV.out]), below_drewN HB5.out nq⟩
           . cases huv
set_option maxRecDepth 100000 in
theorem refFine_2 (x : Tw) (w : World) (hx : TwOk x) (heb0 : exprB x.op = false) (hsb0 : stmtB x.op = true) : Calls prog 61 #[.agg (twCells x)] w fun e w' => e = .returned (.bool (fineB x (fun _ => true))) ∧ Below w.heap.size w w' := by
 rw [<- fineR_eq]
 obtain ⟨op, kids, int, text⟩ := x
 obtain ⟨o1, o2, o3, o4, o5, o6⟩ := hx
 dsimp only at o1 o2 o3 o4 o5 o6 heb0 hsb0
 have HBK := zh (Blk.new w 42 (twCells ⟨op, kids, int, text⟩))
 have HB0 := zh ((Below.refl w.heap.size w).alloc (nlr _) (.cells (twCells ⟨op, kids, int, text⟩) 42))
 have HE := zh (fun W => refExpr_any op W o1)
 have HS := zh (fun W => refStmt_any op W o1)
 have HN := zh (fun W => named_any op W o1)
 have HO := zh (fun W => refOwn_any text W (by unfold maxLen at o6; omega))
 have HL := zh (fun W => least_any op W o1)
 have HM := zh (fun W => most_any op W o1)
 obtain ⟨R, hR⟩ := ex (fineR ⟨op, kids, int, text⟩)
 rw [<- hR]
 unfold fineR at hR
 dsimp only at hR
 have HR := zh hR
 have o7 : text.size <= 9223372036854775807 := by unfold maxLen at o6; omega
 clear hR o6
 obtain ⟨lf, hlf⟩ : ∃ z, z = leastF op := ⟨_, rfl⟩
 have hlf2 : lf <= 2 := by rw [hlf]; exact leastF_le op
 obtain ⟨mf, hmf⟩ : ∃ z, z = mostF op := ⟨_, rfl⟩
 rw [<- hlf] at HR HL
 rw [<- hmf] at HR HM
 rw [heb0] at HR HE
 rw [hsb0] at HR HS
 obtain ⟨nb, hnb⟩ : ∃ z, z = namedB op := ⟨_, rfl⟩
 obtain ⟨ob, hob⟩ : ∃ z, z = (nameB text.toList && !kw text.toList) := ⟨_, rfl⟩
 rw [<- hnb] at HR HN
 rw [<- hob] at HR HO
 clear hlf hmf heb0 hsb0 hnb hob
 dsimp only [twCells] at HBK HB0 |-
 go_in
 go_wp2_with fail
 generalize w.alloc (.cells #[.int .u8 (op : Nat), .int .i64 kids, .int .i64 int, .string text] 42) = w0 at *
 obtain ⟨bx, hbx⟩ : ∃ g, g = w.heap.size := ⟨_, rfl⟩
 rw [<- hbx] at HBK |-
 clear hbx
 have HX : Hid (Blk w0 bx 42 #[.int .u8 (op : Nat), .int .i64 kids, .int .i64 int, .string text]) := HBK.out
 have y0 : w0.cell? ⟨bx, 0, none⟩ = some (.int .u8 (op : Nat)) := HX.out.cell 0
 have y1 : w0.cell? ⟨bx, 1, none⟩ = some (.int .i64 kids) := HX.out.cell 1
 have y2 : w0.cell? ⟨bx, 2, none⟩ = some (.int .i64 int) := HX.out.cell 2
 have y3 : w0.cell? ⟨bx, 3, none⟩ = some (.string text) := HX.out.cell 3
 have HR0 := zh (show R = ((if nb = true then ob else if op = 24 then decide (text.size <= 4095) else text.toList.isEmpty) && (decide (0 <= int ∧ (int = 0 ∨ op = 23)) && (decide ((lf : Int) <= kids) && decide (mf < 0 ∧ kids <= 2048 ∨ 0 <= mf ∧ kids <= mf)))) from by rw [HR.out]; rfl)
 clear HR
 go_wp2_with fail
 refine (HE.out w0).mono ?_
 rintro e w9 ⟨rfl, hw9⟩
 rw [hw9]
 clear hw9 w9
 go_wp2_with fail
 refine (HS.out w0).mono ?_
 rintro e w9 ⟨rfl, hw9⟩
 rw [hw9]
 clear hw9 w9
 go_wp2_with fail
 refine (HN.out w0).mono ?_
 rintro e w9 ⟨rfl, hw9⟩
 rw [hw9]
 clear hw9 w9
 cases nb
 . by_cases h24 : op = 24
   . have d24 : ((op : Int) == 24) = true := by rw [h24]; rfl
     by_cases hsz : 4095 < text.size
     . have dsz : decide ((4095 : Int) < (text.size : Int)) = true := dqt (by omega)
       have HRF := zh (show R = false from by rw [HR0.out, if_neg (by simp), if_pos h24, dqf (by omega)]; rfl)
       clear h24
       go_wp2_with fail
       go_ret
       exact ⟨ret_bool (by rw [HRF.out]), HB0.out⟩
     . have dsz : decide ((4095 : Int) < (text.size : Int)) = false := dqf (by omega)
       have HR := zh (show R = (decide (0 <= int ∧ (int = 0 ∨ op = 23)) && (decide ((lf : Int) <= kids) && decide (mf < 0 ∧ kids <= 2048 ∨ 0 <= mf ∧ kids <= mf))) from by rw [HR0.out, if_neg (by simp), if_pos h24, dqt (show text.size <= 4095 from by omega), Bool.true_and])
       clear h24
       by_cases t1 : int < 0
       . have d1 : decide (int < 0) = true := dqt t1
         have HRF := zh (show R = false from by rw [HR.out, dqf (show ¬ (0 <= int ∧ (int = 0 ∨ op = 23)) from by omega)]; rfl)
         go_wp2_with fail
         go_ret
         exact ⟨ret_bool (by rw [HRF.out]), HB0.out⟩
       . have d1 : decide (int < 0) = false := dqf t1
         by_cases t2 : 0 < int ∧ op ≠ 23
         . obtain ⟨t3, t4⟩ := t2
           have d2 : decide (0 < int) = true := dqt t3
           have d3 : ((op : Int) != 23) = true := by rw [bne_iff_ne]; omega
           have HRF := zh (show R = false from by rw [HR.out, dqf (show ¬ (0 <= int ∧ (int = 0 ∨ op = 23)) from by omega)]; rfl)
           go_wp2_with fail
           go_ret
           exact ⟨ret_bool (by rw [HRF.out]), HB0.out⟩
         . have HR2 := zh (show R = (decide ((lf : Int) <= kids) && decide (mf < 0 ∧ kids <= 2048 ∨ 0 <= mf ∧ kids <= mf)) from by rw [HR.out, dqt (show 0 <= int ∧ (int = 0 ∨ op = 23) from by omega)]; rfl)
           clear HR
           have dd : ∃ u v : Bool, decide (0 < int) = u ∧ ((op : Int) != 23) = v ∧ (u && v) = false := by
            refine ⟨_, _, rfl, rfl, ?_⟩
            rw [Bool.and_eq_false_iff, decide_eq_false_iff_not, bne_eq_false_iff_eq]
            omega
           obtain ⟨u, v, hu, hv, huv⟩ := dd
           cases u
           . clear t1 t2
             by_cases k1 : (lf : Int) <= kids
             . have d4 : decide ((lf : Int) <= kids) = true := dqt k1
               by_cases m0 : mf < 0
               . have d5 : decide (mf < 0) = true := dqt m0
                 by_cases k2 : kids <= 2048
                 . have d6 : decide (kids <= 2048) = true := dqt k2
                   have HRV := zh (show R = true from by rw [HR2.out, d4, dqt (.inl ⟨m0, k2⟩)]; rfl)
                   go_wp2_with fail
                   go_quiet (first | (refine Calls.quiet_of_same (HL.out _)) | (refine Calls.quiet_of_same (HM.out _)))
                   go_wp2_with fail
                   go_ret
                   exact ⟨ret_bool (by rw [HRV.out]), below_drewN HB0.out nq⟩
                 . have d6 : decide (kids <= 2048) = false := dqf k2
                   have d7 : decide (kids <= mf) = false := dqf (by omega)
                   have HRV := zh (show R = false from by rw [HR2.out, dqf (show ¬ (mf < 0 ∧ kids <= 2048 ∨ 0 <= mf ∧ kids <= mf) from by omega), Bool.and_false])
                   go_wp2_with fail
                   go_quiet (first | (refine Calls.quiet_of_same (HL.out _)) | (refine Calls.quiet_of_same (HM.out _)))
                   go_wp2_with fail
                   go_ret
                   exact ⟨ret_bool (by rw [HRV.out]), below_drewN HB0.out nq⟩
               . have d5 : decide (mf < 0) = false := dqf m0
                 by_cases k2 : kids <= mf
                 . have d6 : decide (kids <= mf) = true := dqt k2
                   have HRV := zh (show R = true from by rw [HR2.out, d4, dqt (show mf < 0 ∧ kids <= 2048 ∨ 0 <= mf ∧ kids <= mf from by omega)]; rfl)
                   go_wp2_with fail
                   go_quiet (first | (refine Calls.quiet_of_same (HL.out _)) | (refine Calls.quiet_of_same (HM.out _)))
                   go_wp2_with fail
                   go_ret
                   exact ⟨ret_bool (by rw [HRV.out]), below_drewN HB0.out nq⟩
                 . have d6 : decide (kids <= mf) = false := dqf k2
                   have HRV := zh (show R = false from by rw [HR2.out, dqf (show ¬ (mf < 0 ∧ kids <= 2048 ∨ 0 <= mf ∧ kids <= mf) from by omega), Bool.and_false])
                   go_wp2_with fail
                   go_quiet (first | (refine Calls.quiet_of_same (HL.out _)) | (refine Calls.quiet_of_same (HM.out _)))
                   go_wp2_with fail
                   go_ret
                   exact ⟨ret_bool (by rw [HRV.out]), below_drewN HB0.out nq⟩
             . have d4 : decide ((lf : Int) <= kids) = false := dqf k1
               have HRV := zh (show R = false from by rw [HR2.out, d4]; rfl)
               go_wp2_with fail
               go_quiet (first | (refine Calls.quiet_of_same (HL.out _)) | (refine Calls.quiet_of_same (HM.out _)))
               go_wp2_with fail
               go_ret
               exact ⟨ret_bool (by rw [HRV.out]), below_drewN HB0.out nq⟩
           . cases v
             . clear t1 t2
               by_cases k1 : (lf : Int) <= kids
               . have d4 : decide ((lf : Int) <= kids) = true := dqt k1
                 by_cases m0 : mf < 0
                 . have d5 : decide (mf < 0) = true := dqt m0
                   by_cases k2 : kids <= 2048
                   . have d6 : decide (kids <= 2048) = true := dqt k2
                     have HRV := zh (show R = true from by rw [HR2.out, d4, dqt (.inl ⟨m0, k2⟩)]; rfl)
                     go_wp2_with fail
                     go_quiet (first | (refine Calls.quiet_of_same (HL.out _)) | (refine Calls.quiet_of_same (HM.out _)))
                     go_wp2_with fail
                     go_ret
                     exact ⟨ret_bool (by rw [HRV.out]), below_drewN HB0.out nq⟩
                   . have d6 : decide (kids <= 2048) = false := dqf k2
                     have d7 : decide (kids <= mf) = false := dqf (by omega)
                     have HRV := zh (show R = false from by rw [HR2.out, dqf (show ¬ (mf < 0 ∧ kids <= 2048 ∨ 0 <= mf ∧ kids <= mf) from by omega), Bool.and_false])
                     go_wp2_with fail
                     go_quiet (first | (refine Calls.quiet_of_same (HL.out _)) | (refine Calls.quiet_of_same (HM.out _)))
                     go_wp2_with fail
                     go_ret
                     exact ⟨ret_bool (by rw [HRV.out]), below_drewN HB0.out nq⟩
                 . have d5 : decide (mf < 0) = false := dqf m0
                   by_cases k2 : kids <= mf
                   . have d6 : decide (kids <= mf) = true := dqt k2
                     have HRV := zh (show R = true from by rw [HR2.out, d4, dqt (show mf < 0 ∧ kids <= 2048 ∨ 0 <= mf ∧ kids <= mf from by omega)]; rfl)
                     go_wp2_with fail
                     go_quiet (first | (refine Calls.quiet_of_same (HL.out _)) | (refine Calls.quiet_of_same (HM.out _)))
                     go_wp2_with fail
                     go_ret
                     exact ⟨ret_bool (by rw [HRV.out]), below_drewN HB0.out nq⟩
                   . have d6 : decide (kids <= mf) = false := dqf k2
                     have HRV := zh (show R = false from by rw [HR2.out, dqf (show ¬ (mf < 0 ∧ kids <= 2048 ∨ 0 <= mf ∧ kids <= mf) from by omega), Bool.and_false])
                     go_wp2_with fail
                     go_quiet (first | (refine Calls.quiet_of_same (HL.out _)) | (refine Calls.quiet_of_same (HM.out _)))
                     go_wp2_with fail
                     go_ret
                     exact ⟨ret_bool (by rw [HRV.out]), below_drewN HB0.out nq⟩
               . have d4 : decide ((lf : Int) <= kids) = false := dqf k1
                 have HRV := zh (show R = false from by rw [HR2.out, d4]; rfl)
                 go_wp2_with fail
                 go_quiet (first | (refine Calls.quiet_of_same (HL.out _)) | (refine Calls.quiet_of_same (HM.out _)))
                 go_wp2_with fail
                 go_ret
                 exact ⟨ret_bool (by rw [HRV.out]), below_drewN HB0.out nq⟩
             . cases huv
   . have d24 : ((op : Int) == 24) = false := eqf (by omega)
     cases hem : text.toList.isEmpty
     . have HRF := zh (show R = false from by rw [HR0.out, if_neg (by simp), if_neg h24, hem]; rfl)
       clear h24
       go_wp2_with fail
       go_ret
       exact ⟨ret_bool (by rw [HRF.out]), HB0.out⟩
     . have HR := zh (show R = (decide (0 <= int ∧ (int = 0 ∨ op = 23)) && (decide ((lf : Int) <= kids) && decide (mf < 0 ∧ kids <= 2048 ∨ 0 <= mf ∧ kids <= mf))) from by rw [HR0.out, if_neg (by simp), if_neg h24, hem, Bool.true_and])
       clear h24
       by_cases t1 : int < 0
       . have d1 : decide (int < 0) = true := dqt t1
         have HRF := zh (show R = false from by rw [HR.out, dqf (show ¬ (0 <= int ∧ (int = 0 ∨ op = 23)) from by omega)]; rfl)
         go_wp2_with fail
         go_ret
         exact ⟨ret_bool (by rw [HRF.out]), HB0.out⟩
       . have d1 : decide (int < 0) = false := dqf t1
         by_cases t2 : 0 < int ∧ op ≠ 23
         . obtain ⟨t3, t4⟩ := t2
           have d2 : decide (0 < int) = true := dqt t3
           have d3 : ((op : Int) != 23) = true := by rw [bne_iff_ne]; omega
           have HRF := zh (show R = false from by rw [HR.out, dqf (show ¬ (0 <= int ∧ (int = 0 ∨ op = 23)) from by omega)]; rfl)
           go_wp2_with fail
           go_ret
           exact ⟨ret_bool (by rw [HRF.out]), HB0.out⟩
         . have HR2 := zh (show R = (decide ((lf : Int) <= kids) && decide (mf < 0 ∧ kids <= 2048 ∨ 0 <= mf ∧ kids <= mf)) from by rw [HR.out, dqt (show 0 <= int ∧ (int = 0 ∨ op = 23) from by omega)]; rfl)
           clear HR
           have dd : ∃ u v : Bool, decide (0 < int) = u ∧ ((op : Int) != 23) = v ∧ (u && v) = false := by
            refine ⟨_, _, rfl, rfl, ?_⟩
            rw [Bool.and_eq_false_iff, decide_eq_false_iff_not, bne_eq_false_iff_eq]
            omega
           obtain ⟨u, v, hu, hv, huv⟩ := dd
           cases u
           . clear t1 t2
             by_cases k1 : (lf : Int) <= kids
             . have d4 : decide ((lf : Int) <= kids) = true := dqt k1
               by_cases m0 : mf < 0
               . have d5 : decide (mf < 0) = true := dqt m0
                 by_cases k2 : kids <= 2048
                 . have d6 : decide (kids <= 2048) = true := dqt k2
                   have HRV := zh (show R = true from by rw [HR2.out, d4, dqt (.inl ⟨m0, k2⟩)]; rfl)
                   go_wp2_with fail
                   go_quiet (first | (refine Calls.quiet_of_same (HL.out _)) | (refine Calls.quiet_of_same (HM.out _)))
                   go_wp2_with fail
                   go_ret
                   exact ⟨ret_bool (by rw [HRV.out]), below_drewN HB0.out nq⟩
                 . have d6 : decide (kids <= 2048) = false := dqf k2
                   have d7 : decide (kids <= mf) = false := dqf (by omega)
                   have HRV := zh (show R = false from by rw [HR2.out, dqf (show ¬ (mf < 0 ∧ kids <= 2048 ∨ 0 <= mf ∧ kids <= mf) from by omega), Bool.and_false])
                   go_wp2_with fail
                   go_quiet (first | (refine Calls.quiet_of_same (HL.out _)) | (refine Calls.quiet_of_same (HM.out _)))
                   go_wp2_with fail
                   go_ret
                   exact ⟨ret_bool (by rw [HRV.out]), below_drewN HB0.out nq⟩
               . have d5 : decide (mf < 0) = false := dqf m0
                 by_cases k2 : kids <= mf
                 . have d6 : decide (kids <= mf) = true := dqt k2
                   have HRV := zh (show R = true from by rw [HR2.out, d4, dqt (show mf < 0 ∧ kids <= 2048 ∨ 0 <= mf ∧ kids <= mf from by omega)]; rfl)
                   go_wp2_with fail
                   go_quiet (first | (refine Calls.quiet_of_same (HL.out _)) | (refine Calls.quiet_of_same (HM.out _)))
                   go_wp2_with fail
                   go_ret
                   exact ⟨ret_bool (by rw [HRV.out]), below_drewN HB0.out nq⟩
                 . have d6 : decide (kids <= mf) = false := dqf k2
                   have HRV := zh (show R = false from by rw [HR2.out, dqf (show ¬ (mf < 0 ∧ kids <= 2048 ∨ 0 <= mf ∧ kids <= mf) from by omega), Bool.and_false])
                   go_wp2_with fail
                   go_quiet (first | (refine Calls.quiet_of_same (HL.out _)) | (refine Calls.quiet_of_same (HM.out _)))
                   go_wp2_with fail
                   go_ret
                   exact ⟨ret_bool (by rw [HRV.out]), below_drewN HB0.out nq⟩
             . have d4 : decide ((lf : Int) <= kids) = false := dqf k1
               have HRV := zh (show R = false from by rw [HR2.out, d4]; rfl)
               go_wp2_with fail
               go_quiet (first | (refine Calls.quiet_of_same (HL.out _)) | (refine Calls.quiet_of_same (HM.out _)))
               go_wp2_with fail
               go_ret
               exact ⟨ret_bool (by rw [HRV.out]), below_drewN HB0.out nq⟩
           . cases v
             . clear t1 t2
               by_cases k1 : (lf : Int) <= kids
               . have d4 : decide ((lf : Int) <= kids) = true := dqt k1
                 by_cases m0 : mf < 0
                 . have d5 : decide (mf < 0) = true := dqt m0
                   by_cases k2 : kids <= 2048
                   . have d6 : decide (kids <= 2048) = true := dqt k2
                     have HRV := zh (show R = true from by rw [HR2.out, d4, dqt (.inl ⟨m0, k2⟩)]; rfl)
                     go_wp2_with fail
                     go_quiet (first | (refine Calls.quiet_of_same (HL.out _)) | (refine Calls.quiet_of_same (HM.out _)))
                     go_wp2_with fail
                     go_ret
                     exact ⟨ret_bool (by rw [HRV.out]), below_drewN HB0.out nq⟩
                   . have d6 : decide (kids <= 2048) = false := dqf k2
                     have d7 : decide (kids <= mf) = false := dqf (by omega)
                     have HRV := zh (show R = false from by rw [HR2.out, dqf (show ¬ (mf < 0 ∧ kids <= 2048 ∨ 0 <= mf ∧ kids <= mf) from by omega), Bool.and_false])
                     go_wp2_with fail
                     go_quiet (first | (refine Calls.quiet_of_same (HL.out _)) | (refine Calls.quiet_of_same (HM.out _)))
                     go_wp2_with fail
                     go_ret
                     exact ⟨ret_bool (by rw [HRV.out]), below_drewN HB0.out nq⟩
                 . have d5 : decide (mf < 0) = false := dqf m0
                   by_cases k2 : kids <= mf
                   . have d6 : decide (kids <= mf) = true := dqt k2
                     have HRV := zh (show R = true from by rw [HR2.out, d4, dqt (show mf < 0 ∧ kids <= 2048 ∨ 0 <= mf ∧ kids <= mf from by omega)]; rfl)
                     go_wp2_with fail
                     go_quiet (first | (refine Calls.quiet_of_same (HL.out _)) | (refine Calls.quiet_of_same (HM.out _)))
                     go_wp2_with fail
                     go_ret
                     exact ⟨ret_bool (by rw [HRV.out]), below_drewN HB0.out nq⟩
                   . have d6 : decide (kids <= mf) = false := dqf k2
                     have HRV := zh (show R = false from by rw [HR2.out, dqf (show ¬ (mf < 0 ∧ kids <= 2048 ∨ 0 <= mf ∧ kids <= mf) from by omega), Bool.and_false])
                     go_wp2_with fail
                     go_quiet (first | (refine Calls.quiet_of_same (HL.out _)) | (refine Calls.quiet_of_same (HM.out _)))
                     go_wp2_with fail
                     go_ret
                     exact ⟨ret_bool (by rw [HRV.out]), below_drewN HB0.out nq⟩
               . have d4 : decide ((lf : Int) <= kids) = false := dqf k1
                 have HRV := zh (show R = false from by rw [HR2.out, d4]; rfl)
                 go_wp2_with fail
                 go_quiet (first | (refine Calls.quiet_of_same (HL.out _)) | (refine Calls.quiet_of_same (HM.out _)))
                 go_wp2_with fail
                 go_ret
                 exact ⟨ret_bool (by rw [HRV.out]), below_drewN HB0.out nq⟩
             . cases huv
 . go_wp2_with fail
   refine (HO.out w0).mono ?_
   rintro e w5 ⟨rfl, hb5⟩
   have HX5 := zh (HX.out.below hb5 HX.out.lt)
   have HB5 := zh (HB0.out.trans (hb5.mono HB0.out.size))
   have z0 : w5.cell? ⟨bx, 0, none⟩ = some (.int .u8 (op : Nat)) := HX5.out.cell 0
   have z1 : w5.cell? ⟨bx, 1, none⟩ = some (.int .i64 kids) := HX5.out.cell 1
   have z2 : w5.cell? ⟨bx, 2, none⟩ = some (.int .i64 int) := HX5.out.cell 2
   have z3 : w5.cell? ⟨bx, 3, none⟩ = some (.string text) := HX5.out.cell 3
   clear hb5 y0 y1 y2 y3
   cases ob
   . have HRF := zh (show R = false from by rw [HR0.out]; rfl)
     go_wp2_with fail
     go_ret
     exact ⟨ret_bool (by rw [HRF.out]), HB5.out⟩
   . have HR := zh (show R = (decide (0 <= int ∧ (int = 0 ∨ op = 23)) && (decide ((lf : Int) <= kids) && decide (mf < 0 ∧ kids <= 2048 ∨ 0 <= mf ∧ kids <= mf))) from by rw [HR0.out]; rfl)
     by_cases t1 : int < 0
     . have d1 : decide (int < 0) = true := dqt t1
       have HRF := zh (show R = false from by rw [HR.out, dqf (show ¬ (0 <= int ∧ (int = 0 ∨ op = 23)) from by omega)]; rfl)
       go_wp2_with fail
       go_ret
       exact ⟨ret_bool (by rw [HRF.out]), HB5.out⟩
     . have d1 : decide (int < 0) = false := dqf t1
       by_cases t2 : 0 < int ∧ op ≠ 23
       . obtain ⟨t3, t4⟩ := t2
         have d2 : decide (0 < int) = true := dqt t3
         have d3 : ((op : Int) != 23) = true := by rw [bne_iff_ne]; omega
         have HRF := zh (show R = false from by rw [HR.out, dqf (show ¬ (0 <= int ∧ (int = 0 ∨ op = 23)) from by omega)]; rfl)
         go_wp2_with fail
         go_ret
         exact ⟨ret_bool (by rw [HRF.out]), HB5.out⟩
       . have HR2 := zh (show R = (decide ((lf : Int) <= kids) && decide (mf < 0 ∧ kids <= 2048 ∨ 0 <= mf ∧ kids <= mf)) from by rw [HR.out, dqt (show 0 <= int ∧ (int = 0 ∨ op = 23) from by omega)]; rfl)
         clear HR
         have dd : ∃ u v : Bool, decide (0 < int) = u ∧ ((op : Int) != 23) = v ∧ (u && v) = false := by
          refine ⟨_, _, rfl, rfl, ?_⟩
          rw [Bool.and_eq_false_iff, decide_eq_false_iff_not, bne_eq_false_iff_eq]
          omega
         obtain ⟨u, v, hu, hv, huv⟩ := dd
         cases u
         . clear t1 t2
           by_cases k1 : (lf : Int) <= kids
           . have d4 : decide ((lf : Int) <= kids) = true := dqt k1
             by_cases m0 : mf < 0
             . have d5 : decide (mf < 0) = true := dqt m0
               by_cases k2 : kids <= 2048
               . have d6 : decide (kids <= 2048) = true := dqt k2
                 have HRV := zh (show R = true from by rw [HR2.out, d4, dqt (.inl ⟨m0, k2⟩)]; rfl)
                 go_wp2_with fail
                 go_quiet (first | (refine Calls.quiet_of_same (HL.out _)) | (refine Calls.quiet_of_same (HM.out _)))
                 go_wp2_with fail
                 go_ret
                 exact ⟨ret_bool (by rw [HRV.out]), below_drewN HB5.out nq⟩
               . have d6 : decide (kids <= 2048) = false := dqf k2
                 have d7 : decide (kids <= mf) = false := dqf (by omega)
                 have HRV := zh (show R = false from by rw [HR2.out, dqf (show ¬ (mf < 0 ∧ kids <= 2048 ∨ 0 <= mf ∧ kids <= mf) from by omega), Bool.and_false])
                 go_wp2_with fail
                 go_quiet (first | (refine Calls.quiet_of_same (HL.out _)) | (refine Calls.quiet_of_same (HM.out _)))
                 go_wp2_with fail
                 go_ret
                 exact ⟨ret_bool (by rw [HRV.out]), below_drewN HB5.out nq⟩
             . have d5 : decide (mf < 0) = false := dqf m0
               by_cases k2 : kids <= mf
               . have d6 : decide (kids <= mf) = true := dqt k2
                 have HRV := zh (show R = true from by rw [HR2.out, d4, dqt (show mf < 0 ∧ kids <= 2048 ∨ 0 <= mf ∧ kids <= mf from by omega)]; rfl)
                 go_wp2_with fail
                 go_quiet (first | (refine Calls.quiet_of_same (HL.out _)) | (refine Calls.quiet_of_same (HM.out _)))
                 go_wp2_with fail
                 go_ret
                 exact ⟨ret_bool (by rw [HRV.out]), below_drewN HB5.out nq⟩
               . have d6 : decide (kids <= mf) = false := dqf k2
                 have HRV := zh (show R = false from by rw [HR2.out, dqf (show ¬ (mf < 0 ∧ kids <= 2048 ∨ 0 <= mf ∧ kids <= mf) from by omega), Bool.and_false])
                 go_wp2_with fail
                 go_quiet (first | (refine Calls.quiet_of_same (HL.out _)) | (refine Calls.quiet_of_same (HM.out _)))
                 go_wp2_with fail
                 go_ret
                 exact ⟨ret_bool (by rw [HRV.out]), below_drewN HB5.out nq⟩
           . have d4 : decide ((lf : Int) <= kids) = false := dqf k1
             have HRV := zh (show R = false from by rw [HR2.out, d4]; rfl)
             go_wp2_with fail
             go_quiet (first | (refine Calls.quiet_of_same (HL.out _)) | (refine Calls.quiet_of_same (HM.out _)))
             go_wp2_with fail
             go_ret
             exact ⟨ret_bool (by rw [HRV.out]), below_drewN HB5.out nq⟩
         . cases v
           . clear t1 t2
             by_cases k1 : (lf : Int) <= kids
             . have d4 : decide ((lf : Int) <= kids) = true := dqt k1
               by_cases m0 : mf < 0
               . have d5 : decide (mf < 0) = true := dqt m0
                 by_cases k2 : kids <= 2048
                 . have d6 : decide (kids <= 2048) = true := dqt k2
                   have HRV := zh (show R = true from by rw [HR2.out, d4, dqt (.inl ⟨m0, k2⟩)]; rfl)
                   go_wp2_with fail
                   go_quiet (first | (refine Calls.quiet_of_same (HL.out _)) | (refine Calls.quiet_of_same (HM.out _)))
                   go_wp2_with fail
                   go_ret
                   exact ⟨ret_bool (by rw [HRV.out]), below_drewN HB5.out nq⟩
                 . have d6 : decide (kids <= 2048) = false := dqf k2
                   have d7 : decide (kids <= mf) = false := dqf (by omega)
                   have HRV := zh (show R = false from by rw [HR2.out, dqf (show ¬ (mf < 0 ∧ kids <= 2048 ∨ 0 <= mf ∧ kids <= mf) from by omega), Bool.and_false])
                   go_wp2_with fail
                   go_quiet (first | (refine Calls.quiet_of_same (HL.out _)) | (refine Calls.quiet_of_same (HM.out _)))
                   go_wp2_with fail
                   go_ret
                   exact ⟨ret_bool (by rw [HRV.out]), below_drewN HB5.out nq⟩
               . have d5 : decide (mf < 0) = false := dqf m0
                 by_cases k2 : kids <= mf
                 . have d6 : decide (kids <= mf) = true := dqt k2
                   have HRV := zh (show R = true from by rw [HR2.out, d4, dqt (show mf < 0 ∧ kids <= 2048 ∨ 0 <= mf ∧ kids <= mf from by omega)]; rfl)
                   go_wp2_with fail
                   go_quiet (first | (refine Calls.quiet_of_same (HL.out _)) | (refine Calls.quiet_of_same (HM.out _)))
                   go_wp2_with fail
                   go_ret
                   exact ⟨ret_bool (by rw [HRV.out]), below_drewN HB5.out nq⟩
                 . have d6 : decide (kids <= mf) = false := dqf k2
                   have HRV := zh (show R = false from by rw [HR2.out, dqf (show ¬ (mf < 0 ∧ kids <= 2048 ∨ 0 <= mf ∧ kids <= mf) from by omega), Bool.and_false])
                   go_wp2_with fail
                   go_quiet (first | (refine Calls.quiet_of_same (HL.out _)) | (refine Calls.quiet_of_same (HM.out _)))
                   go_wp2_with fail
                   go_ret
                   exact ⟨ret_bool (by rw [HRV.out]), below_drewN HB5.out nq⟩
             . have d4 : decide ((lf : Int) <= kids) = false := dqf k1
               have HRV := zh (show R = false from by rw [HR2.out, d4]; rfl)
               go_wp2_with fail
               go_quiet (first | (refine Calls.quiet_of_same (HL.out _)) | (refine Calls.quiet_of_same (HM.out _)))
               go_wp2_with fail
               go_ret
               exact ⟨ret_bool (by rw [HRV.out]), below_drewN HB5.out nq⟩
           . cases huv
set_option maxRecDepth 100000 in
theorem refFine_3 (x : Tw) (w : World) (hx : TwOk x) (heb0 : exprB x.op = false) (hsb0 : stmtB x.op = false) (h3 : 1 <= x.op ∧ x.op <= 3) : Calls prog 61 #[.agg (twCells x)] w fun e w' => e = .returned (.bool (fineB x (fun _ => true))) ∧ Below w.heap.size w w' := by
 rw [<- fineR_eq]
 obtain ⟨op, kids, int, text⟩ := x
 obtain ⟨o1, o2, o3, o4, o5, o6⟩ := hx
 dsimp only at o1 o2 o3 o4 o5 o6 heb0 hsb0 h3
 have HBK := zh (Blk.new w 42 (twCells ⟨op, kids, int, text⟩))
 have HB0 := zh ((Below.refl w.heap.size w).alloc (nlr _) (.cells (twCells ⟨op, kids, int, text⟩) 42))
 have HE := zh (fun W => refExpr_any op W o1)
 have HS := zh (fun W => refStmt_any op W o1)
 have HN := zh (fun W => named_any op W o1)
 have HO := zh (fun W => refOwn_any text W (by unfold maxLen at o6; omega))
 have HL := zh (fun W => least_any op W o1)
 have HM := zh (fun W => most_any op W o1)
 obtain ⟨R, hR⟩ := ex (fineR ⟨op, kids, int, text⟩)
 rw [<- hR]
 unfold fineR at hR
 dsimp only at hR
 have HR := zh hR
 have o7 : text.size <= 9223372036854775807 := by unfold maxLen at o6; omega
 clear hR o6
 obtain ⟨lf, hlf⟩ : ∃ z, z = leastF op := ⟨_, rfl⟩
 have hlf2 : lf <= 2 := by rw [hlf]; exact leastF_le op
 obtain ⟨mf, hmf⟩ : ∃ z, z = mostF op := ⟨_, rfl⟩
 rw [<- hlf] at HR HL
 rw [<- hmf] at HR HM
 rw [heb0] at HR HE
 rw [hsb0] at HR HS
 obtain ⟨nb, hnb⟩ : ∃ z, z = namedB op := ⟨_, rfl⟩
 obtain ⟨ob, hob⟩ : ∃ z, z = (nameB text.toList && !kw text.toList) := ⟨_, rfl⟩
 rw [<- hnb] at HR HN
 rw [<- hob] at HR HO
 clear hlf hmf heb0 hsb0 hnb hob
 dsimp only [twCells] at HBK HB0 |-
 go_in
 go_wp2_with fail
 generalize w.alloc (.cells #[.int .u8 (op : Nat), .int .i64 kids, .int .i64 int, .string text] 42) = w0 at *
 obtain ⟨bx, hbx⟩ : ∃ g, g = w.heap.size := ⟨_, rfl⟩
 rw [<- hbx] at HBK |-
 clear hbx
 have HX : Hid (Blk w0 bx 42 #[.int .u8 (op : Nat), .int .i64 kids, .int .i64 int, .string text]) := HBK.out
 have y0 : w0.cell? ⟨bx, 0, none⟩ = some (.int .u8 (op : Nat)) := HX.out.cell 0
 have y1 : w0.cell? ⟨bx, 1, none⟩ = some (.int .i64 kids) := HX.out.cell 1
 have y2 : w0.cell? ⟨bx, 2, none⟩ = some (.int .i64 int) := HX.out.cell 2
 have y3 : w0.cell? ⟨bx, 3, none⟩ = some (.string text) := HX.out.cell 3
 obtain ⟨h31, h32⟩ := h3
 have HR0 := zh (show R = ((if nb = true then ob else if op = 24 then decide (text.size <= 4095) else text.toList.isEmpty) && (decide (0 <= int ∧ (int = 0 ∨ op = 23)) && (decide ((lf : Int) <= kids) && decide (mf < 0 ∧ kids <= 2048 ∨ 0 <= mf ∧ kids <= mf)))) from by rw [HR.out, dqt (ai h31 h32)]; rfl)
 clear HR
 have d31 : decide ((op : Int) < 1) = false := dqf (by omega)
 have d32 : decide ((3 : Int) < (op : Int)) = false := dqf (by omega)
 go_wp2_with fail
 refine (HE.out w0).mono ?_
 rintro e w9 ⟨rfl, hw9⟩
 rw [hw9]
 clear hw9 w9
 go_wp2_with fail
 refine (HS.out w0).mono ?_
 rintro e w9 ⟨rfl, hw9⟩
 rw [hw9]
 clear hw9 w9
 go_wp2_with fail
 refine (HN.out w0).mono ?_
 rintro e w9 ⟨rfl, hw9⟩
 rw [hw9]
 clear hw9 w9
 cases nb
 . by_cases h24 : op = 24
   . have d24 : ((op : Int) == 24) = true := by rw [h24]; rfl
     by_cases hsz : 4095 < text.size
     . have dsz : decide ((4095 : Int) < (text.size : Int)) = true := dqt (by omega)
       have HRF := zh (show R = false from by rw [HR0.out, if_neg (by simp), if_pos h24, dqf (by omega)]; rfl)
       clear h24
       go_wp2_with fail
       go_ret
       exact ⟨ret_bool (by rw [HRF.out]), HB0.out⟩
     . have dsz : decide ((4095 : Int) < (text.size : Int)) = false := dqf (by omega)
       have HR := zh (show R = (decide (0 <= int ∧ (int = 0 ∨ op = 23)) && (decide ((lf : Int) <= kids) && decide (mf < 0 ∧ kids <= 2048 ∨ 0 <= mf ∧ kids <= mf))) from by rw [HR0.out, if_neg (by simp), if_pos h24, dqt (show text.size <= 4095 from by omega), Bool.true_and])
       clear h24
       by_cases t1 : int < 0
       . have d1 : decide (int < 0) = true := dqt t1
         have HRF := zh (show R = false from by rw [HR.out, dqf (show ¬ (0 <= int ∧ (int = 0 ∨ op = 23)) from by omega)]; rfl)
         go_wp2_with fail
         go_ret
         exact ⟨ret_bool (by rw [HRF.out]), HB0.out⟩
       . have d1 : decide (int < 0) = false := dqf t1
         by_cases t2 : 0 < int ∧ op ≠ 23
         . obtain ⟨t3, t4⟩ := t2
           have d2 : decide (0 < int) = true := dqt t3
           have d3 : ((op : Int) != 23) = true := by rw [bne_iff_ne]; omega
           have HRF := zh (show R = false from by rw [HR.out, dqf (show ¬ (0 <= int ∧ (int = 0 ∨ op = 23)) from by omega)]; rfl)
           go_wp2_with fail
           go_ret
           exact ⟨ret_bool (by rw [HRF.out]), HB0.out⟩
         . have HR2 := zh (show R = (decide ((lf : Int) <= kids) && decide (mf < 0 ∧ kids <= 2048 ∨ 0 <= mf ∧ kids <= mf)) from by rw [HR.out, dqt (show 0 <= int ∧ (int = 0 ∨ op = 23) from by omega)]; rfl)
           clear HR
           have dd : ∃ u v : Bool, decide (0 < int) = u ∧ ((op : Int) != 23) = v ∧ (u && v) = false := by
            refine ⟨_, _, rfl, rfl, ?_⟩
            rw [Bool.and_eq_false_iff, decide_eq_false_iff_not, bne_eq_false_iff_eq]
            omega
           obtain ⟨u, v, hu, hv, huv⟩ := dd
           cases u
           . clear t1 t2
             by_cases k1 : (lf : Int) <= kids
             . have d4 : decide ((lf : Int) <= kids) = true := dqt k1
               by_cases m0 : mf < 0
               . have d5 : decide (mf < 0) = true := dqt m0
                 by_cases k2 : kids <= 2048
                 . have d6 : decide (kids <= 2048) = true := dqt k2
                   have HRV := zh (show R = true from by rw [HR2.out, d4, dqt (.inl ⟨m0, k2⟩)]; rfl)
                   go_wp2_with fail
                   go_quiet (first | (refine Calls.quiet_of_same (HL.out _)) | (refine Calls.quiet_of_same (HM.out _)))
                   go_wp2_with fail
                   go_ret
                   exact ⟨ret_bool (by rw [HRV.out]), below_drewN HB0.out nq⟩
                 . have d6 : decide (kids <= 2048) = false := dqf k2
                   have d7 : decide (kids <= mf) = false := dqf (by omega)
                   have HRV := zh (show R = false from by rw [HR2.out, dqf (show ¬ (mf < 0 ∧ kids <= 2048 ∨ 0 <= mf ∧ kids <= mf) from by omega), Bool.and_false])
                   go_wp2_with fail
                   go_quiet (first | (refine Calls.quiet_of_same (HL.out _)) | (refine Calls.quiet_of_same (HM.out _)))
                   go_wp2_with fail
                   go_ret
                   exact ⟨ret_bool (by rw [HRV.out]), below_drewN HB0.out nq⟩
               . have d5 : decide (mf < 0) = false := dqf m0
                 by_cases k2 : kids <= mf
                 . have d6 : decide (kids <= mf) = true := dqt k2
                   have HRV := zh (show R = true from by rw [HR2.out, d4, dqt (show mf < 0 ∧ kids <= 2048 ∨ 0 <= mf ∧ kids <= mf from by omega)]; rfl)
                   go_wp2_with fail
                   go_quiet (first | (refine Calls.quiet_of_same (HL.out _)) | (refine Calls.quiet_of_same (HM.out _)))
                   go_wp2_with fail
                   go_ret
                   exact ⟨ret_bool (by rw [HRV.out]), below_drewN HB0.out nq⟩
                 . have d6 : decide (kids <= mf) = false := dqf k2
                   have HRV := zh (show R = false from by rw [HR2.out, dqf (show ¬ (mf < 0 ∧ kids <= 2048 ∨ 0 <= mf ∧ kids <= mf) from by omega), Bool.and_false])
                   go_wp2_with fail
                   go_quiet (first | (refine Calls.quiet_of_same (HL.out _)) | (refine Calls.quiet_of_same (HM.out _)))
                   go_wp2_with fail
                   go_ret
                   exact ⟨ret_bool (by rw [HRV.out]), below_drewN HB0.out nq⟩
             . have d4 : decide ((lf : Int) <= kids) = false := dqf k1
               have HRV := zh (show R = false from by rw [HR2.out, d4]; rfl)
               go_wp2_with fail
               go_quiet (first | (refine Calls.quiet_of_same (HL.out _)) | (refine Calls.quiet_of_same (HM.out _)))
               go_wp2_with fail
               go_ret
               exact ⟨ret_bool (by rw [HRV.out]), below_drewN HB0.out nq⟩
           . cases v
             . clear t1 t2
               by_cases k1 : (lf : Int) <= kids
               . have d4 : decide ((lf : Int) <= kids) = true := dqt k1
                 by_cases m0 : mf < 0
                 . have d5 : decide (mf < 0) = true := dqt m0
                   by_cases k2 : kids <= 2048
                   . have d6 : decide (kids <= 2048) = true := dqt k2
                     have HRV := zh (show R = true from by rw [HR2.out, d4, dqt (.inl ⟨m0, k2⟩)]; rfl)
                     go_wp2_with fail
                     go_quiet (first | (refine Calls.quiet_of_same (HL.out _)) | (refine Calls.quiet_of_same (HM.out _)))
                     go_wp2_with fail
                     go_ret
                     exact ⟨ret_bool (by rw [HRV.out]), below_drewN HB0.out nq⟩
                   . have d6 : decide (kids <= 2048) = false := dqf k2
                     have d7 : decide (kids <= mf) = false := dqf (by omega)
                     have HRV := zh (show R = false from by rw [HR2.out, dqf (show ¬ (mf < 0 ∧ kids <= 2048 ∨ 0 <= mf ∧ kids <= mf) from by omega), Bool.and_false])
                     go_wp2_with fail
                     go_quiet (first | (refine Calls.quiet_of_same (HL.out _)) | (refine Calls.quiet_of_same (HM.out _)))
                     go_wp2_with fail
                     go_ret
                     exact ⟨ret_bool (by rw [HRV.out]), below_drewN HB0.out nq⟩
                 . have d5 : decide (mf < 0) = false := dqf m0
                   by_cases k2 : kids <= mf
                   . have d6 : decide (kids <= mf) = true := dqt k2
                     have HRV := zh (show R = true from by rw [HR2.out, d4, dqt (show mf < 0 ∧ kids <= 2048 ∨ 0 <= mf ∧ kids <= mf from by omega)]; rfl)
                     go_wp2_with fail
                     go_quiet (first | (refine Calls.quiet_of_same (HL.out _)) | (refine Calls.quiet_of_same (HM.out _)))
                     go_wp2_with fail
                     go_ret
                     exact ⟨ret_bool (by rw [HRV.out]), below_drewN HB0.out nq⟩
                   . have d6 : decide (kids <= mf) = false := dqf k2
                     have HRV := zh (show R = false from by rw [HR2.out, dqf (show ¬ (mf < 0 ∧ kids <= 2048 ∨ 0 <= mf ∧ kids <= mf) from by omega), Bool.and_false])
                     go_wp2_with fail
                     go_quiet (first | (refine Calls.quiet_of_same (HL.out _)) | (refine Calls.quiet_of_same (HM.out _)))
                     go_wp2_with fail
                     go_ret
                     exact ⟨ret_bool (by rw [HRV.out]), below_drewN HB0.out nq⟩
               . have d4 : decide ((lf : Int) <= kids) = false := dqf k1
                 have HRV := zh (show R = false from by rw [HR2.out, d4]; rfl)
                 go_wp2_with fail
                 go_quiet (first | (refine Calls.quiet_of_same (HL.out _)) | (refine Calls.quiet_of_same (HM.out _)))
                 go_wp2_with fail
                 go_ret
                 exact ⟨ret_bool (by rw [HRV.out]), below_drewN HB0.out nq⟩
             . cases huv
   . have d24 : ((op : Int) == 24) = false := eqf (by omega)
     cases hem : text.toList.isEmpty
     . have HRF := zh (show R = false from by rw [HR0.out, if_neg (by simp), if_neg h24, hem]; rfl)
       clear h24
       go_wp2_with fail
       go_ret
       exact ⟨ret_bool (by rw [HRF.out]), HB0.out⟩
     . have HR := zh (show R = (decide (0 <= int ∧ (int = 0 ∨ op = 23)) && (decide ((lf : Int) <= kids) && decide (mf < 0 ∧ kids <= 2048 ∨ 0 <= mf ∧ kids <= mf))) from by rw [HR0.out, if_neg (by simp), if_neg h24, hem, Bool.true_and])
       clear h24
       by_cases t1 : int < 0
       . have d1 : decide (int < 0) = true := dqt t1
         have HRF := zh (show R = false from by rw [HR.out, dqf (show ¬ (0 <= int ∧ (int = 0 ∨ op = 23)) from by omega)]; rfl)
         go_wp2_with fail
         go_ret
         exact ⟨ret_bool (by rw [HRF.out]), HB0.out⟩
       . have d1 : decide (int < 0) = false := dqf t1
         by_cases t2 : 0 < int ∧ op ≠ 23
         . obtain ⟨t3, t4⟩ := t2
           have d2 : decide (0 < int) = true := dqt t3
           have d3 : ((op : Int) != 23) = true := by rw [bne_iff_ne]; omega
           have HRF := zh (show R = false from by rw [HR.out, dqf (show ¬ (0 <= int ∧ (int = 0 ∨ op = 23)) from by omega)]; rfl)
           go_wp2_with fail
           go_ret
           exact ⟨ret_bool (by rw [HRF.out]), HB0.out⟩
         . have HR2 := zh (show R = (decide ((lf : Int) <= kids) && decide (mf < 0 ∧ kids <= 2048 ∨ 0 <= mf ∧ kids <= mf)) from by rw [HR.out, dqt (show 0 <= int ∧ (int = 0 ∨ op = 23) from by omega)]; rfl)
           clear HR
           have dd : ∃ u v : Bool, decide (0 < int) = u ∧ ((op : Int) != 23) = v ∧ (u && v) = false := by
            refine ⟨_, _, rfl, rfl, ?_⟩
            rw [Bool.and_eq_false_iff, decide_eq_false_iff_not, bne_eq_false_iff_eq]
            omega
           obtain ⟨u, v, hu, hv, huv⟩ := dd
           cases u
           . clear t1 t2
             by_cases k1 : (lf : Int) <= kids
             . have d4 : decide ((lf : Int) <= kids) = true := dqt k1
               by_cases m0 : mf < 0
               . have d5 : decide (mf < 0) = true := dqt m0
                 by_cases k2 : kids <= 2048
                 . have d6 : decide (kids <= 2048) = true := dqt k2
                   have HRV := zh (show R = true from by rw [HR2.out, d4, dqt (.inl ⟨m0, k2⟩)]; rfl)
                   go_wp2_with fail
                   go_quiet (first | (refine Calls.quiet_of_same (HL.out _)) | (refine Calls.quiet_of_same (HM.out _)))
                   go_wp2_with fail
                   go_ret
                   exact ⟨ret_bool (by rw [HRV.out]), below_drewN HB0.out nq⟩
                 . have d6 : decide (kids <= 2048) = false := dqf k2
                   have d7 : decide (kids <= mf) = false := dqf (by omega)
                   have HRV := zh (show R = false from by rw [HR2.out, dqf (show ¬ (mf < 0 ∧ kids <= 2048 ∨ 0 <= mf ∧ kids <= mf) from by omega), Bool.and_false])
                   go_wp2_with fail
                   go_quiet (first | (refine Calls.quiet_of_same (HL.out _)) | (refine Calls.quiet_of_same (HM.out _)))
                   go_wp2_with fail
                   go_ret
                   exact ⟨ret_bool (by rw [HRV.out]), below_drewN HB0.out nq⟩
               . have d5 : decide (mf < 0) = false := dqf m0
                 by_cases k2 : kids <= mf
                 . have d6 : decide (kids <= mf) = true := dqt k2
                   have HRV := zh (show R = true from by rw [HR2.out, d4, dqt (show mf < 0 ∧ kids <= 2048 ∨ 0 <= mf ∧ kids <= mf from by omega)]; rfl)
                   go_wp2_with fail
                   go_quiet (first | (refine Calls.quiet_of_same (HL.out _)) | (refine Calls.quiet_of_same (HM.out _)))
                   go_wp2_with fail
                   go_ret
                   exact ⟨ret_bool (by rw [HRV.out]), below_drewN HB0.out nq⟩
                 . have d6 : decide (kids <= mf) = false := dqf k2
                   have HRV := zh (show R = false from by rw [HR2.out, dqf (show ¬ (mf < 0 ∧ kids <= 2048 ∨ 0 <= mf ∧ kids <= mf) from by omega), Bool.and_false])
                   go_wp2_with fail
                   go_quiet (first | (refine Calls.quiet_of_same (HL.out _)) | (refine Calls.quiet_of_same (HM.out _)))
                   go_wp2_with fail
                   go_ret
                   exact ⟨ret_bool (by rw [HRV.out]), below_drewN HB0.out nq⟩
             . have d4 : decide ((lf : Int) <= kids) = false := dqf k1
               have HRV := zh (show R = false from by rw [HR2.out, d4]; rfl)
               go_wp2_with fail
               go_quiet (first | (refine Calls.quiet_of_same (HL.out _)) | (refine Calls.quiet_of_same (HM.out _)))
               go_wp2_with fail
               go_ret
               exact ⟨ret_bool (by rw [HRV.out]), below_drewN HB0.out nq⟩
           . cases v
             . clear t1 t2
               by_cases k1 : (lf : Int) <= kids
               . have d4 : decide ((lf : Int) <= kids) = true := dqt k1
                 by_cases m0 : mf < 0
                 . have d5 : decide (mf < 0) = true := dqt m0
                   by_cases k2 : kids <= 2048
                   . have d6 : decide (kids <= 2048) = true := dqt k2
                     have HRV := zh (show R = true from by rw [HR2.out, d4, dqt (.inl ⟨m0, k2⟩)]; rfl)
                     go_wp2_with fail
                     go_quiet (first | (refine Calls.quiet_of_same (HL.out _)) | (refine Calls.quiet_of_same (HM.out _)))
                     go_wp2_with fail
                     go_ret
                     exact ⟨ret_bool (by rw [HRV.out]), below_drewN HB0.out nq⟩
                   . have d6 : decide (kids <= 2048) = false := dqf k2
                     have d7 : decide (kids <= mf) = false := dqf (by omega)
                     have HRV := zh (show R = false from by rw [HR2.out, dqf (show ¬ (mf < 0 ∧ kids <= 2048 ∨ 0 <= mf ∧ kids <= mf) from by omega), Bool.and_false])
                     go_wp2_with fail
                     go_quiet (first | (refine Calls.quiet_of_same (HL.out _)) | (refine Calls.quiet_of_same (HM.out _)))
                     go_wp2_with fail
                     go_ret
                     exact ⟨ret_bool (by rw [HRV.out]), below_drewN HB0.out nq⟩
                 . have d5 : decide (mf < 0) = false := dqf m0
                   by_cases k2 : kids <= mf
                   . have d6 : decide (kids <= mf) = true := dqt k2
                     have HRV := zh (show R = true from by rw [HR2.out, d4, dqt (show mf < 0 ∧ kids <= 2048 ∨ 0 <= mf ∧ kids <= mf from by omega)]; rfl)
                     go_wp2_with fail
                     go_quiet (first | (refine Calls.quiet_of_same (HL.out _)) | (refine Calls.quiet_of_same (HM.out _)))
                     go_wp2_with fail
                     go_ret
                     exact ⟨ret_bool (by rw [HRV.out]), below_drewN HB0.out nq⟩
                   . have d6 : decide (kids <= mf) = false := dqf k2
                     have HRV := zh (show R = false from by rw [HR2.out, dqf (show ¬ (mf < 0 ∧ kids <= 2048 ∨ 0 <= mf ∧ kids <= mf) from by omega), Bool.and_false])
                     go_wp2_with fail
                     go_quiet (first | (refine Calls.quiet_of_same (HL.out _)) | (refine Calls.quiet_of_same (HM.out _)))
                     go_wp2_with fail
                     go_ret
                     exact ⟨ret_bool (by rw [HRV.out]), below_drewN HB0.out nq⟩
               . have d4 : decide ((lf : Int) <= kids) = false := dqf k1
                 have HRV := zh (show R = false from by rw [HR2.out, d4]; rfl)
                 go_wp2_with fail
                 go_quiet (first | (refine Calls.quiet_of_same (HL.out _)) | (refine Calls.quiet_of_same (HM.out _)))
                 go_wp2_with fail
                 go_ret
                 exact ⟨ret_bool (by rw [HRV.out]), below_drewN HB0.out nq⟩
             . cases huv
 . go_wp2_with fail
   refine (HO.out w0).mono ?_
   rintro e w5 ⟨rfl, hb5⟩
   have HX5 := zh (HX.out.below hb5 HX.out.lt)
   have HB5 := zh (HB0.out.trans (hb5.mono HB0.out.size))
   have z0 : w5.cell? ⟨bx, 0, none⟩ = some (.int .u8 (op : Nat)) := HX5.out.cell 0
   have z1 : w5.cell? ⟨bx, 1, none⟩ = some (.int .i64 kids) := HX5.out.cell 1
   have z2 : w5.cell? ⟨bx, 2, none⟩ = some (.int .i64 int) := HX5.out.cell 2
   have z3 : w5.cell? ⟨bx, 3, none⟩ = some (.string text) := HX5.out.cell 3
   clear hb5 y0 y1 y2 y3
   cases ob
   . have HRF := zh (show R = false from by rw [HR0.out]; rfl)
     go_wp2_with fail
     go_ret
     exact ⟨ret_bool (by rw [HRF.out]), HB5.out⟩
   . have HR := zh (show R = (decide (0 <= int ∧ (int = 0 ∨ op = 23)) && (decide ((lf : Int) <= kids) && decide (mf < 0 ∧ kids <= 2048 ∨ 0 <= mf ∧ kids <= mf))) from by rw [HR0.out]; rfl)
     by_cases t1 : int < 0
     . have d1 : decide (int < 0) = true := dqt t1
       have HRF := zh (show R = false from by rw [HR.out, dqf (show ¬ (0 <= int ∧ (int = 0 ∨ op = 23)) from by omega)]; rfl)
       go_wp2_with fail
       go_ret
       exact ⟨ret_bool (by rw [HRF.out]), HB5.out⟩
     . have d1 : decide (int < 0) = false := dqf t1
       by_cases t2 : 0 < int ∧ op ≠ 23
       . obtain ⟨t3, t4⟩ := t2
         have d2 : decide (0 < int) = true := dqt t3
         have d3 : ((op : Int) != 23) = true := by rw [bne_iff_ne]; omega
         have HRF := zh (show R = false from by rw [HR.out, dqf (show ¬ (0 <= int ∧ (int = 0 ∨ op = 23)) from by omega)]; rfl)
         go_wp2_with fail
         go_ret
         exact ⟨ret_bool (by rw [HRF.out]), HB5.out⟩
       . have HR2 := zh (show R = (decide ((lf : Int) <= kids) && decide (mf < 0 ∧ kids <= 2048 ∨ 0 <= mf ∧ kids <= mf)) from by rw [HR.out, dqt (show 0 <= int ∧ (int = 0 ∨ op = 23) from by omega)]; rfl)
         clear HR
         have dd : ∃ u v : Bool, decide (0 < int) = u ∧ ((op : Int) != 23) = v ∧ (u && v) = false := by
          refine ⟨_, _, rfl, rfl, ?_⟩
          rw [Bool.and_eq_false_iff, decide_eq_false_iff_not, bne_eq_false_iff_eq]
          omega
         obtain ⟨u, v, hu, hv, huv⟩ := dd
         cases u
         . clear t1 t2
           by_cases k1 : (lf : Int) <= kids
           . have d4 : decide ((lf : Int) <= kids) = true := dqt k1
             by_cases m0 : mf < 0
             . have d5 : decide (mf < 0) = true := dqt m0
               by_cases k2 : kids <= 2048
               . have d6 : decide (kids <= 2048) = true := dqt k2
                 have HRV := zh (show R = true from by rw [HR2.out, d4, dqt (.inl ⟨m0, k2⟩)]; rfl)
                 go_wp2_with fail
                 go_quiet (first | (refine Calls.quiet_of_same (HL.out _)) | (refine Calls.quiet_of_same (HM.out _)))
                 go_wp2_with fail
                 go_ret
                 exact ⟨ret_bool (by rw [HRV.out]), below_drewN HB5.out nq⟩
               . have d6 : decide (kids <= 2048) = false := dqf k2
                 have d7 : decide (kids <= mf) = false := dqf (by omega)
                 have HRV := zh (show R = false from by rw [HR2.out, dqf (show ¬ (mf < 0 ∧ kids <= 2048 ∨ 0 <= mf ∧ kids <= mf) from by omega), Bool.and_false])
                 go_wp2_with fail
                 go_quiet (first | (refine Calls.quiet_of_same (HL.out _)) | (refine Calls.quiet_of_same (HM.out _)))
                 go_wp2_with fail
                 go_ret
                 exact ⟨ret_bool (by rw [HRV.out]), below_drewN HB5.out nq⟩
             . have d5 : decide (mf < 0) = false := dqf m0
               by_cases k2 : kids <= mf
               . have d6 : decide (kids <= mf) = true := dqt k2
                 have HRV := zh (show R = true from by rw [HR2.out, d4, dqt (show mf < 0 ∧ kids <= 2048 ∨ 0 <= mf ∧ kids <= mf from by omega)]; rfl)
                 go_wp2_with fail
                 go_quiet (first | (refine Calls.quiet_of_same (HL.out _)) | (refine Calls.quiet_of_same (HM.out _)))
                 go_wp2_with fail
                 go_ret
                 exact ⟨ret_bool (by rw [HRV.out]), below_drewN HB5.out nq⟩
               . have d6 : decide (kids <= mf) = false := dqf k2
                 have HRV := zh (show R = false from by rw [HR2.out, dqf (show ¬ (mf < 0 ∧ kids <= 2048 ∨ 0 <= mf ∧ kids <= mf) from by omega), Bool.and_false])
                 go_wp2_with fail
                 go_quiet (first | (refine Calls.quiet_of_same (HL.out _)) | (refine Calls.quiet_of_same (HM.out _)))
                 go_wp2_with fail
                 go_ret
                 exact ⟨ret_bool (by rw [HRV.out]), below_drewN HB5.out nq⟩
           . have d4 : decide ((lf : Int) <= kids) = false := dqf k1
             have HRV := zh (show R = false from by rw [HR2.out, d4]; rfl)
             go_wp2_with fail
             go_quiet (first | (refine Calls.quiet_of_same (HL.out _)) | (refine Calls.quiet_of_same (HM.out _)))
             go_wp2_with fail
             go_ret
             exact ⟨ret_bool (by rw [HRV.out]), below_drewN HB5.out nq⟩
         . cases v
           . clear t1 t2
             by_cases k1 : (lf : Int) <= kids
             . have d4 : decide ((lf : Int) <= kids) = true := dqt k1
               by_cases m0 : mf < 0
               . have d5 : decide (mf < 0) = true := dqt m0
                 by_cases k2 : kids <= 2048
                 . have d6 : decide (kids <= 2048) = true := dqt k2
                   have HRV := zh (show R = true from by rw [HR2.out, d4, dqt (.inl ⟨m0, k2⟩)]; rfl)
                   go_wp2_with fail
                   go_quiet (first | (refine Calls.quiet_of_same (HL.out _)) | (refine Calls.quiet_of_same (HM.out _)))
                   go_wp2_with fail
                   go_ret
                   exact ⟨ret_bool (by rw [HRV.out]), below_drewN HB5.out nq⟩
                 . have d6 : decide (kids <= 2048) = false := dqf k2
                   have d7 : decide (kids <= mf) = false := dqf (by omega)
                   have HRV := zh (show R = false from by rw [HR2.out, dqf (show ¬ (mf < 0 ∧ kids <= 2048 ∨ 0 <= mf ∧ kids <= mf) from by omega), Bool.and_false])
                   go_wp2_with fail
                   go_quiet (first | (refine Calls.quiet_of_same (HL.out _)) | (refine Calls.quiet_of_same (HM.out _)))
                   go_wp2_with fail
                   go_ret
                   exact ⟨ret_bool (by rw [HRV.out]), below_drewN HB5.out nq⟩
               . have d5 : decide (mf < 0) = false := dqf m0
                 by_cases k2 : kids <= mf
                 . have d6 : decide (kids <= mf) = true := dqt k2
                   have HRV := zh (show R = true from by rw [HR2.out, d4, dqt (show mf < 0 ∧ kids <= 2048 ∨ 0 <= mf ∧ kids <= mf from by omega)]; rfl)
                   go_wp2_with fail
                   go_quiet (first | (refine Calls.quiet_of_same (HL.out _)) | (refine Calls.quiet_of_same (HM.out _)))
                   go_wp2_with fail
                   go_ret
                   exact ⟨ret_bool (by rw [HRV.out]), below_drewN HB5.out nq⟩
                 . have d6 : decide (kids <= mf) = false := dqf k2
                   have HRV := zh (show R = false from by rw [HR2.out, dqf (show ¬ (mf < 0 ∧ kids <= 2048 ∨ 0 <= mf ∧ kids <= mf) from by omega), Bool.and_false])
                   go_wp2_with fail
                   go_quiet (first | (refine Calls.quiet_of_same (HL.out _)) | (refine Calls.quiet_of_same (HM.out _)))
                   go_wp2_with fail
                   go_ret
                   exact ⟨ret_bool (by rw [HRV.out]), below_drewN HB5.out nq⟩
             . have d4 : decide ((lf : Int) <= kids) = false := dqf k1
               have HRV := zh (show R = false from by rw [HR2.out, d4]; rfl)
               go_wp2_with fail
               go_quiet (first | (refine Calls.quiet_of_same (HL.out _)) | (refine Calls.quiet_of_same (HM.out _)))
               go_wp2_with fail
               go_ret
               exact ⟨ret_bool (by rw [HRV.out]), below_drewN HB5.out nq⟩
           . cases huv
set_option maxRecDepth 100000 in
theorem refFine_4 (x : Tw) (w : World) (hx : TwOk x) (heb0 : exprB x.op = false) (hsb0 : stmtB x.op = false) (h3 : ¬ (1 <= x.op ∧ x.op <= 3)) : Calls prog 61 #[.agg (twCells x)] w fun e w' => e = .returned (.bool (fineB x (fun _ => true))) ∧ Below w.heap.size w w' := by
 rw [<- fineR_eq]
 obtain ⟨op, kids, int, text⟩ := x
 obtain ⟨o1, o2, o3, o4, o5, o6⟩ := hx
 dsimp only at o1 o2 o3 o4 o5 o6 heb0 hsb0 h3
 have HBK := zh (Blk.new w 42 (twCells ⟨op, kids, int, text⟩))
 have HB0 := zh ((Below.refl w.heap.size w).alloc (nlr _) (.cells (twCells ⟨op, kids, int, text⟩) 42))
 have HE := zh (fun W => refExpr_any op W o1)
 have HS := zh (fun W => refStmt_any op W o1)
 have HN := zh (fun W => named_any op W o1)
 have HO := zh (fun W => refOwn_any text W (by unfold maxLen at o6; omega))
 have HL := zh (fun W => least_any op W o1)
 have HM := zh (fun W => most_any op W o1)
 obtain ⟨R, hR⟩ := ex (fineR ⟨op, kids, int, text⟩)
 rw [<- hR]
 unfold fineR at hR
 dsimp only at hR
 have HR := zh hR
 have o7 : text.size <= 9223372036854775807 := by unfold maxLen at o6; omega
 clear hR o6
 obtain ⟨lf, hlf⟩ : ∃ z, z = leastF op := ⟨_, rfl⟩
 have hlf2 : lf <= 2 := by rw [hlf]; exact leastF_le op
 obtain ⟨mf, hmf⟩ : ∃ z, z = mostF op := ⟨_, rfl⟩
 rw [<- hlf] at HR HL
 rw [<- hmf] at HR HM
 rw [heb0] at HR HE
 rw [hsb0] at HR HS
 obtain ⟨nb, hnb⟩ : ∃ z, z = namedB op := ⟨_, rfl⟩
 obtain ⟨ob, hob⟩ : ∃ z, z = (nameB text.toList && !kw text.toList) := ⟨_, rfl⟩
 rw [<- hnb] at HR HN
 rw [<- hob] at HR HO
 clear hlf hmf heb0 hsb0 hnb hob
 dsimp only [twCells] at HBK HB0 |-
 go_in
 go_wp2_with fail
 generalize w.alloc (.cells #[.int .u8 (op : Nat), .int .i64 kids, .int .i64 int, .string text] 42) = w0 at *
 obtain ⟨bx, hbx⟩ : ∃ g, g = w.heap.size := ⟨_, rfl⟩
 rw [<- hbx] at HBK |-
 clear hbx
 have HX : Hid (Blk w0 bx 42 #[.int .u8 (op : Nat), .int .i64 kids, .int .i64 int, .string text]) := HBK.out
 have y0 : w0.cell? ⟨bx, 0, none⟩ = some (.int .u8 (op : Nat)) := HX.out.cell 0
 have y1 : w0.cell? ⟨bx, 1, none⟩ = some (.int .i64 kids) := HX.out.cell 1
 have y2 : w0.cell? ⟨bx, 2, none⟩ = some (.int .i64 int) := HX.out.cell 2
 have y3 : w0.cell? ⟨bx, 3, none⟩ = some (.string text) := HX.out.cell 3
 have HRF := zh (show R = false from by rw [HR.out, dqf h3]; rfl)
 go_wp2_with fail
 refine (HE.out w0).mono ?_
 rintro e w9 ⟨rfl, hw9⟩
 rw [hw9]
 clear hw9 w9
 go_wp2_with fail
 refine (HS.out w0).mono ?_
 rintro e w9 ⟨rfl, hw9⟩
 rw [hw9]
 clear hw9 w9
 by_cases h31 : op < 1
 . have d31 : decide ((op : Int) < 1) = true := dqt (by omega)
   clear h3
   go_wp2_with fail
   go_ret
   exact ⟨ret_bool (by rw [HRF.out]), HB0.out⟩
 . have d31 : decide ((op : Int) < 1) = false := dqf (by omega)
   have d32 : decide ((3 : Int) < (op : Int)) = true := dqt (by omega)
   clear h3
   go_wp2_with fail
   go_ret
   exact ⟨ret_bool (by rw [HRF.out]), HB0.out⟩
theorem refFine_any (x : Tw) (w : World) (hx : TwOk x) : Calls prog 61 #[.agg (twCells x)] w fun e w' => e = .returned (.bool (fineB x (fun _ => true))) ∧ Below w.heap.size w w' := by
 cases he : exprB x.op
 . cases hs : stmtB x.op
   . by_cases h3 : 1 <= x.op ∧ x.op <= 3
     . exact refFine_3 x w hx he hs h3
     . exact refFine_4 x w hx he hs h3
   . exact refFine_2 x w hx he hs
 . exact refFine_1 x w hx he
end Go.Proofs.YtbcadlocldplfaaDoor.T8
