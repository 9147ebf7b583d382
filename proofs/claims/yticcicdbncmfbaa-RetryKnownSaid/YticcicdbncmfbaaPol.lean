/- Policies: whether one may be, and its copy. -/
import Derived.Test.YticcicdbncmfbaaProg
import Derived.Test.YticcicdbncmfbaaKit
import Derived.Deep.QuietTactic
import Derived.BigQuiet
namespace Go.Proofs.Yticcicdbncmfbaa
open Go.RowKit

/-- May a policy be? -/
def May (F C N D M S : Int) (L : Nat) : Prop := 0 ≤ F ∧ F ≤ C ∧ 1 ≤ D ∧ D ≤ N ∧ N ≤ 1000 ∧ 1 ≤ M ∧ M ≤ 1000 ∧ 0 ≤ S ∧ S ≤ 100 ∧ L ≤ 100
instance (F C N D M S : Int) (L : Nat) : Decidable (May F C N D M S L) := by unfold May; infer_instance
def err (b : Prop) [Decidable b] : Int := if b then 0 else 1
theorem err_yes {b : Prop} [Decidable b] (h : b) : err b = 0 := if_pos h
theorem err_no {b : Prop} [Decidable b] (h : ¬ b) : err b = 1 := if_neg h

theorem check_any (F C N D M S : Int) (A : Option Addr) (L K : Nat) (w : World) (hL : L ≤ 9223372036854775807) :
    Calls Try.prog 15 #[.agg #[.int .i64 F, .int .i64 C, .int .i64 N, .int .i64 D, .int .i64 M, .int .i64 S, .slice A L K]] w fun e w' => e = .returned (.int .i64 (err (May F C N D M S L))) ∧ Below w.heap.size w w' := by
  by_cases h0 : F < 0
  · have he : err (May F C N D M S L) = 1 := err_no (by unfold May; omega)
    rw [he]
    go_enter Try.func15, Try.ntmps15; go_wp2_with fail; go_ret; exact ⟨rfl, (Below.refl _ _).alloc (Nat.le_refl _) _⟩
  by_cases h1 : C < F
  · have he : err (May F C N D M S L) = 1 := err_no (by unfold May; omega)
    rw [he]
    go_enter Try.func15, Try.ntmps15; go_wp2_with fail; go_ret; exact ⟨rfl, (Below.refl _ _).alloc (Nat.le_refl _) _⟩
  by_cases h2 : D < 1
  · have he : err (May F C N D M S L) = 1 := err_no (by unfold May; omega)
    rw [he]
    go_enter Try.func15, Try.ntmps15; go_wp2_with fail; go_ret; exact ⟨rfl, (Below.refl _ _).alloc (Nat.le_refl _) _⟩
  by_cases h3 : N < D
  · have he : err (May F C N D M S L) = 1 := err_no (by unfold May; omega)
    rw [he]
    go_enter Try.func15, Try.ntmps15; go_wp2_with fail; go_ret; exact ⟨rfl, (Below.refl _ _).alloc (Nat.le_refl _) _⟩
  by_cases h4 : 1000 < N
  · have he : err (May F C N D M S L) = 1 := err_no (by unfold May; omega)
    rw [he]
    go_enter Try.func15, Try.ntmps15; go_wp2_with fail; go_ret; exact ⟨rfl, (Below.refl _ _).alloc (Nat.le_refl _) _⟩
  by_cases h5 : M < 1
  · have he : err (May F C N D M S L) = 1 := err_no (by unfold May; omega)
    rw [he]
    go_enter Try.func15, Try.ntmps15; go_wp2_with fail; go_ret; exact ⟨rfl, (Below.refl _ _).alloc (Nat.le_refl _) _⟩
  by_cases h6 : 1000 < M
  · have he : err (May F C N D M S L) = 1 := err_no (by unfold May; omega)
    rw [he]
    go_enter Try.func15, Try.ntmps15; go_wp2_with fail; go_ret; exact ⟨rfl, (Below.refl _ _).alloc (Nat.le_refl _) _⟩
  by_cases h7 : S < 0
  · have he : err (May F C N D M S L) = 1 := err_no (by unfold May; omega)
    rw [he]
    go_enter Try.func15, Try.ntmps15; go_wp2_with fail; go_ret; exact ⟨rfl, (Below.refl _ _).alloc (Nat.le_refl _) _⟩
  by_cases h8 : 100 < S
  · have he : err (May F C N D M S L) = 1 := err_no (by unfold May; omega)
    rw [he]
    go_enter Try.func15, Try.ntmps15; go_wp2_with fail; go_ret; exact ⟨rfl, (Below.refl _ _).alloc (Nat.le_refl _) _⟩
  by_cases h9 : 100 < (L : Int)
  · have he : err (May F C N D M S L) = 1 := err_no (by unfold May; omega)
    rw [he]
    go_enter Try.func15, Try.ntmps15; go_wp2_with fail; go_ret; exact ⟨rfl, (Below.refl _ _).alloc (Nat.le_refl _) _⟩
  have he : err (May F C N D M S L) = 0 := err_yes (by unfold May; omega)
  rw [he]
  go_enter Try.func15, Try.ntmps15; go_wp2_with fail; go_ret; exact ⟨rfl, (Below.refl _ _).alloc (Nat.le_refl _) _⟩

set_option maxHeartbeats 2000000 in
theorem may_any (F C N D M S : Int) (A : Option Addr) (L K : Nat) (w : World) (hL : L ≤ 9223372036854775807) :
    Calls Try.prog 16 #[.agg #[.int .i64 F, .int .i64 C, .int .i64 N, .int .i64 D, .int .i64 M, .int .i64 S, .slice A L K]] w fun e w' => e = .returned (.bool (decide (May F C N D M S L))) ∧ Below w.heap.size w w' := by
  by_cases h0 : F < 0
  · have he : decide (May F C N D M S L) = false := decide_eq_false (by unfold May; omega)
    rw [he]
    go_enter Try.func16, Try.ntmps16; go_wp2_with fail; go_ret; exact ⟨rfl, (Below.refl _ _).alloc (Nat.le_refl _) _⟩
  by_cases h1 : C < F
  · have he : decide (May F C N D M S L) = false := decide_eq_false (by unfold May; omega)
    rw [he]
    go_enter Try.func16, Try.ntmps16; go_wp2_with fail; go_ret; exact ⟨rfl, (Below.refl _ _).alloc (Nat.le_refl _) _⟩
  by_cases h2 : D < 1
  · have he : decide (May F C N D M S L) = false := decide_eq_false (by unfold May; omega)
    rw [he]
    go_enter Try.func16, Try.ntmps16; go_wp2_with fail; go_ret; exact ⟨rfl, (Below.refl _ _).alloc (Nat.le_refl _) _⟩
  by_cases h3 : N < D
  · have he : decide (May F C N D M S L) = false := decide_eq_false (by unfold May; omega)
    rw [he]
    go_enter Try.func16, Try.ntmps16; go_wp2_with fail; go_ret; exact ⟨rfl, (Below.refl _ _).alloc (Nat.le_refl _) _⟩
  by_cases h4 : 1000 < N
  · have he : decide (May F C N D M S L) = false := decide_eq_false (by unfold May; omega)
    rw [he]
    go_enter Try.func16, Try.ntmps16; go_wp2_with fail; go_ret; exact ⟨rfl, (Below.refl _ _).alloc (Nat.le_refl _) _⟩
  by_cases h5 : M < 1
  · have he : decide (May F C N D M S L) = false := decide_eq_false (by unfold May; omega)
    rw [he]
    go_enter Try.func16, Try.ntmps16; go_wp2_with fail; go_ret; exact ⟨rfl, (Below.refl _ _).alloc (Nat.le_refl _) _⟩
  by_cases h6 : 1000 < M
  · have he : decide (May F C N D M S L) = false := decide_eq_false (by unfold May; omega)
    rw [he]
    go_enter Try.func16, Try.ntmps16; go_wp2_with fail; go_ret; exact ⟨rfl, (Below.refl _ _).alloc (Nat.le_refl _) _⟩
  by_cases h7 : S < 0
  · have he : decide (May F C N D M S L) = false := decide_eq_false (by unfold May; omega)
    rw [he]
    go_enter Try.func16, Try.ntmps16; go_wp2_with fail; go_ret; exact ⟨rfl, (Below.refl _ _).alloc (Nat.le_refl _) _⟩
  by_cases h8 : 100 < S
  · have he : decide (May F C N D M S L) = false := decide_eq_false (by unfold May; omega)
    rw [he]
    go_enter Try.func16, Try.ntmps16; go_wp2_with fail; go_ret; exact ⟨rfl, (Below.refl _ _).alloc (Nat.le_refl _) _⟩
  by_cases h9 : 100 < (L : Int)
  · have he : decide (May F C N D M S L) = false := decide_eq_false (by unfold May; omega)
    rw [he]
    go_enter Try.func16, Try.ntmps16; go_wp2_with fail; go_ret; exact ⟨congrArg Ending.returned (congrArg Value.bool (decide_eq_false (by omega))), (Below.refl _ _).alloc (Nat.le_refl _) _⟩
  have he : decide (May F C N D M S L) = true := decide_eq_true (by unfold May; omega)
  rw [he]
  go_enter Try.func16, Try.ntmps16; go_wp2_with fail; go_ret; exact ⟨rfl, (Below.refl _ _).alloc (Nat.le_refl _) _⟩

end Go.Proofs.Yticcicdbncmfbaa
