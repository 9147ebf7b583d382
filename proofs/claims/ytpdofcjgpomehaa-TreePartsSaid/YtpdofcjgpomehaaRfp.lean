/- Contracts of the document's Own and fine. -/
import Derived.Deep.QuietTactic
import Derived.BigQuiet
import Derived.Test.YtpdofcjgpomehaaRnm
namespace Go.Proofs.Ytpdofcjgpomehaa
open Go.RowKit

/-- The document's table, twig by twig. -/
def fineR (x : Tw) : Bool :=
  (exprB x.op || stmtB x.op || decide (1 ≤ x.op ∧ x.op ≤ 3)) && ((if namedB x.op then (nameB x.text.toList && !kw x.text.toList) else if x.op = 24 then decide (x.text.size ≤ 4095) else x.text.toList.isEmpty) &&
    (decide (0 ≤ x.int ∧ (x.int = 0 ∨ x.op = 23)) && (decide ((leastF x.op : Int) ≤ x.kids) && decide (mostF x.op < 0 ∧ x.kids ≤ 2048 ∨ 0 ≤ mostF x.op ∧ x.kids ≤ mostF x.op))))
def tabOk (op : Nat) : Bool :=
  match formOf op with
  | none => !exprB op && !stmtB op && !decide (1 ≤ op ∧ op ≤ 3)
  | some f => (exprB op || stmtB op || decide (1 ≤ op ∧ op ≤ 3)) && decide (f.least = leastF op) && decide ((mostF op < 0 ∧ f.most = 2048) ∨ (0 ≤ mostF op ∧ mostF op = (f.most : Nat))) && decide ((namedB op = true ∧ f.txt = 33) ∨ (namedB op = false ∧ op = 24 ∧ f.txt = 39) ∨ (namedB op = false ∧ op ≠ 24 ∧ f.txt = 36))
theorem leastF_le (op : Nat) : leastF op ≤ 2 := by
  unfold leastF
  split
  · omega
  · split <;> omega
theorem fineR_eq (x : Tw) : fineR x = fineB x (fun _ => true) := by
  obtain ⟨op, kids, int, text⟩ := x
  unfold fineR fineB
  dsimp only
  by_cases hop : op < 58
  · have key : ∀ op, op < 58 → tabOk op = true := by decide
    have h := key op hop
    unfold tabOk at h
    cases hf : formOf op with
    | none =>
      rw [hf] at h
      simp only [Bool.and_eq_true, Bool.not_eq_true', decide_eq_false_iff_not] at h
      rw [h.1.1, h.1.2, decide_eq_false h.2]
      rfl
    | some f =>
      rw [hf] at h
      simp only [Bool.and_eq_true, decide_eq_true_eq] at h
      obtain ⟨⟨⟨h1, h2⟩, h3⟩, h4⟩ := h
      rw [h1, Bool.true_and]
      dsimp only
      rw [h2]
      have e1 : (if namedB op = true then (nameB text.toList && !kw text.toList) else if op = 24 then decide (text.size ≤ 4095) else text.toList.isEmpty) = txtB f.txt text := by
        rcases h4 with ⟨a, b⟩ | ⟨a, b, c⟩ | ⟨a, b, c⟩
        · rw [a, b]; rfl
        · rw [a, c, b]; rfl
        · rw [a, c, if_neg (by simp), if_neg b]; rfl
      rw [e1]
      have e2 : decide (mostF op < 0 ∧ kids ≤ 2048 ∨ 0 ≤ mostF op ∧ kids ≤ mostF op) = decide (kids ≤ (f.most : Int)) := by
        rw [decide_eq_decide]; omega
      rw [e2]
      have e3 : decide (0 ≤ int ∧ (int = 0 ∨ op = 23)) = (decide (op = 23 ∨ int = 0) && decide (0 ≤ int)) := by
        rw [Bool.eq_iff_iff]; simp only [Bool.and_eq_true, decide_eq_true_eq]; omega
      rw [e3]
      cases decide ((leastF op : Int) ≤ kids) <;> cases decide (kids ≤ (f.most : Int)) <;> cases decide (op = 23 ∨ int = 0) <;> cases decide (0 ≤ int) <;> rfl
  · rw [formOf_big (by omega)]
    have h1 : exprB op = false := decide_eq_false (by omega)
    have h2 : stmtB op = false := decide_eq_false (by omega)
    rw [h1, h2, decide_eq_false (by omega)]
    rfl
theorem refOwn_any (s : ByteArray) (w : World) (hs : s.size ≤ 9223372036854775807) : Calls Try.prog 43 #[.string s] w fun e w' => e = .returned (.bool (nameB s.toList && !kw s.toList)) ∧ Below w.heap.size w w' := by
  have HN := Lib.hid (refName_any s w hs)
  have HK := Lib.hid (refKeyword_any s w)
  generalize nameB s.toList = a at *
  generalize kw s.toList = b at *
  go_enter Try.func43, Try.ntmps43
  go_wp2_with fail
  refine HN.out.mono ?_
  rintro e w2 ⟨rfl, hw2⟩
  rw [hw2]
  clear hw2 w2
  cases a
  · go_wp2_with fail
    go_ret
    exact ⟨rfl, Below.refl _ _⟩
  · go_wp2_with fail
    refine HK.out.mono ?_
    rintro e w2 ⟨rfl, hw2⟩
    have HB := Lib.hid (show Below w.heap.size w w2 from by rw [← hw2]; exact (Below.refl _ _).alloc (Nat.le_refl _) _)
    clear hw2
    go_wp2_with fail
    go_ret
    exact ⟨ret_bool (by simp), HB.out⟩
end Go.Proofs.Ytpdofcjgpomehaa
