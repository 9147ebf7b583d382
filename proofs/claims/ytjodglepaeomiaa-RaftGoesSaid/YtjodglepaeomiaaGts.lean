/- Contracts of the server's small functions: last, term, made, Term, Vote, Commit, Role, Leader. -/
import Derived.Deep.QuietTactic
import Derived.BigQuiet
import Derived.Test.YtjodglepaeomiaaRep
namespace Go.Proofs.Ytjodglepaeomiaa
open Go.RowKit

theorem last_any (w : World) (g : Nat) (n c : Nat) (A : Option Addr) (h4 : w.cell? ⟨g, 4, none⟩ = some (.slice A n c)) :
    Calls Try.prog 40 #[.pointer (some ⟨g, 0, none⟩)] w fun e w' => e = .returned (.int .i64 (n : Nat)) ∧ w' = w := by
  go_enter Try.func40, Try.ntmps40
  go_wp2_with fail
  go_ret
  exact ⟨rfl, rfl⟩
theorem term_zero (w : World) (g : Nat) :
    Calls Try.prog 41 #[.pointer (some ⟨g, 0, none⟩), .int .i64 0] w fun e w' => e = .returned (.int .i64 0) ∧ w' = w := by
  go_enter Try.func41, Try.ntmps41
  go_wp2_with fail
  go_ret
  exact ⟨rfl, rfl⟩
theorem term_pos (w : World) (g n c k b off : Nat) (t : Int) (h4 : w.cell? ⟨g, 4, none⟩ = some (.slice (some ⟨b, off, none⟩) n c)) (hk : k < n) (hn : n ≤ 100000) (hc : w.cell? ⟨b, off + k * 2, none⟩ = some (.int .i64 t)) :
    Calls Try.prog 41 #[.pointer (some ⟨g, 0, none⟩), .int .i64 ((k + 1 : Nat) : Int)] w fun e w' => e = .returned (.int .i64 t) ∧ w' = w := by
  have h0 : (((k + 1 : Nat) : Int) == 0) = false := by simp; omega
  have h1 : (0 : Int) ≤ (k : Int) := by omega
  have h2 : (k : Int) < (n : Int) := by omega
  have h3 : ((k + 1 : Nat) : Int) = (k : Int) + 1 := by omega
  rw [h3] at h0 ⊢
  clear h3
  go_enter Try.func41, Try.ntmps41
  go_wp2_with fail
  go_ret
  exact ⟨rfl, rfl⟩
theorem made_any (w : World) (g : Nat) (n : Nat) (h1 : w.cell? ⟨g, 1, none⟩ = some (.int .i64 (n : Nat))) (hn : 0 < n) :
    Calls Try.prog 35 #[.pointer (some ⟨g, 0, none⟩)] w fun e w' => e = .returned (.bool true) ∧ w' = w := by
  have h2 : decide ((0 : Int) < (n : Int)) = true := decide_eq_true (by omega)
  go_enter Try.func35, Try.ntmps35
  go_wp2_with fail
  go_ret
  exact ⟨rfl, rfl⟩
theorem made_nil (w : World) :
    Calls Try.prog 35 #[.pointer none] w fun e w' => e = .returned (.bool false) ∧ w' = w := by
  go_enter Try.func35, Try.ntmps35
  go_wp2_with fail
  go_ret
  exact ⟨rfl, rfl⟩
theorem made_zero (w : World) (g : Nat) (h1 : w.cell? ⟨g, 1, none⟩ = some (.int .i64 0)) :
    Calls Try.prog 35 #[.pointer (some ⟨g, 0, none⟩)] w fun e w' => e = .returned (.bool false) ∧ w' = w := by
  go_enter Try.func35, Try.ntmps35
  go_wp2_with fail
  go_ret
  exact ⟨rfl, rfl⟩
theorem Term_any (w : World) (g n : Nat) (t : Int) (h1 : w.cell? ⟨g, 1, none⟩ = some (.int .i64 (n : Nat))) (hn : 0 < n) (hc : w.cell? ⟨g, 2, none⟩ = some (.int .i64 t)) :
    Calls Try.prog 32 #[.pointer (some ⟨g, 0, none⟩)] w fun e w' => e = .returned (.int .i64 t) ∧ w' = w := by
  go_enter Try.func32, Try.ntmps32
  go_wp2_with ((with_reducible refine (made_any _ _ _ h1 hn).mono ?_); rintro e w' ⟨rfl, hw'⟩; rw [hw']; clear hw' w')
  go_ret
  exact ⟨rfl, rfl⟩
theorem Term_nil (w : World) :
    Calls Try.prog 32 #[.pointer none] w fun e w' => e = .returned (.int .i64 0) ∧ w' = w := by
  go_enter Try.func32, Try.ntmps32
  go_wp2_with ((with_reducible refine (made_nil _).mono ?_); rintro e w' ⟨rfl, hw'⟩; rw [hw']; clear hw' w')
  go_ret
  exact ⟨rfl, rfl⟩
theorem Term_zero (w : World) (g : Nat) (h1 : w.cell? ⟨g, 1, none⟩ = some (.int .i64 0)) :
    Calls Try.prog 32 #[.pointer (some ⟨g, 0, none⟩)] w fun e w' => e = .returned (.int .i64 0) ∧ w' = w := by
  go_enter Try.func32, Try.ntmps32
  go_wp2_with ((with_reducible refine (made_zero _ _ h1).mono ?_); rintro e w' ⟨rfl, hw'⟩; rw [hw']; clear hw' w')
  go_ret
  exact ⟨rfl, rfl⟩
theorem Vote_any (w : World) (g n : Nat) (t : Int) (h1 : w.cell? ⟨g, 1, none⟩ = some (.int .i64 (n : Nat))) (hn : 0 < n) (hc : w.cell? ⟨g, 3, none⟩ = some (.int .i64 t)) :
    Calls Try.prog 11 #[.pointer (some ⟨g, 0, none⟩)] w fun e w' => e = .returned (.int .i64 t) ∧ w' = w := by
  go_enter Try.func11, Try.ntmps11
  go_wp2_with ((with_reducible refine (made_any _ _ _ h1 hn).mono ?_); rintro e w' ⟨rfl, hw'⟩; rw [hw']; clear hw' w')
  go_ret
  exact ⟨rfl, rfl⟩
theorem Vote_nil (w : World) :
    Calls Try.prog 11 #[.pointer none] w fun e w' => e = .returned (.int .i64 0) ∧ w' = w := by
  go_enter Try.func11, Try.ntmps11
  go_wp2_with ((with_reducible refine (made_nil _).mono ?_); rintro e w' ⟨rfl, hw'⟩; rw [hw']; clear hw' w')
  go_ret
  exact ⟨rfl, rfl⟩
theorem Vote_zero (w : World) (g : Nat) (h1 : w.cell? ⟨g, 1, none⟩ = some (.int .i64 0)) :
    Calls Try.prog 11 #[.pointer (some ⟨g, 0, none⟩)] w fun e w' => e = .returned (.int .i64 0) ∧ w' = w := by
  go_enter Try.func11, Try.ntmps11
  go_wp2_with ((with_reducible refine (made_zero _ _ h1).mono ?_); rintro e w' ⟨rfl, hw'⟩; rw [hw']; clear hw' w')
  go_ret
  exact ⟨rfl, rfl⟩
theorem Commit_any (w : World) (g n : Nat) (t : Int) (h1 : w.cell? ⟨g, 1, none⟩ = some (.int .i64 (n : Nat))) (hn : 0 < n) (hc : w.cell? ⟨g, 7, none⟩ = some (.int .i64 t)) :
    Calls Try.prog 13 #[.pointer (some ⟨g, 0, none⟩)] w fun e w' => e = .returned (.int .i64 t) ∧ w' = w := by
  go_enter Try.func13, Try.ntmps13
  go_wp2_with ((with_reducible refine (made_any _ _ _ h1 hn).mono ?_); rintro e w' ⟨rfl, hw'⟩; rw [hw']; clear hw' w')
  go_ret
  exact ⟨rfl, rfl⟩
theorem Commit_nil (w : World) :
    Calls Try.prog 13 #[.pointer none] w fun e w' => e = .returned (.int .i64 0) ∧ w' = w := by
  go_enter Try.func13, Try.ntmps13
  go_wp2_with ((with_reducible refine (made_nil _).mono ?_); rintro e w' ⟨rfl, hw'⟩; rw [hw']; clear hw' w')
  go_ret
  exact ⟨rfl, rfl⟩
theorem Commit_zero (w : World) (g : Nat) (h1 : w.cell? ⟨g, 1, none⟩ = some (.int .i64 0)) :
    Calls Try.prog 13 #[.pointer (some ⟨g, 0, none⟩)] w fun e w' => e = .returned (.int .i64 0) ∧ w' = w := by
  go_enter Try.func13, Try.ntmps13
  go_wp2_with ((with_reducible refine (made_zero _ _ h1).mono ?_); rintro e w' ⟨rfl, hw'⟩; rw [hw']; clear hw' w')
  go_ret
  exact ⟨rfl, rfl⟩
theorem Role_any (w : World) (g n : Nat) (t : Int) (h1 : w.cell? ⟨g, 1, none⟩ = some (.int .i64 (n : Nat))) (hn : 0 < n) (hc : w.cell? ⟨g, 5, none⟩ = some (.int .u8 t)) :
    Calls Try.prog 16 #[.pointer (some ⟨g, 0, none⟩)] w fun e w' => e = .returned (.int .u8 t) ∧ w' = w := by
  go_enter Try.func16, Try.ntmps16
  go_wp2_with ((with_reducible refine (made_any _ _ _ h1 hn).mono ?_); rintro e w' ⟨rfl, hw'⟩; rw [hw']; clear hw' w')
  go_ret
  exact ⟨rfl, rfl⟩
theorem Role_nil (w : World) :
    Calls Try.prog 16 #[.pointer none] w fun e w' => e = .returned (.int .u8 0) ∧ w' = w := by
  go_enter Try.func16, Try.ntmps16
  go_wp2_with ((with_reducible refine (made_nil _).mono ?_); rintro e w' ⟨rfl, hw'⟩; rw [hw']; clear hw' w')
  go_ret
  exact ⟨rfl, rfl⟩
theorem Role_zero (w : World) (g : Nat) (h1 : w.cell? ⟨g, 1, none⟩ = some (.int .i64 0)) :
    Calls Try.prog 16 #[.pointer (some ⟨g, 0, none⟩)] w fun e w' => e = .returned (.int .u8 0) ∧ w' = w := by
  go_enter Try.func16, Try.ntmps16
  go_wp2_with ((with_reducible refine (made_zero _ _ h1).mono ?_); rintro e w' ⟨rfl, hw'⟩; rw [hw']; clear hw' w')
  go_ret
  exact ⟨rfl, rfl⟩
theorem Leader_any (w : World) (g n : Nat) (t : Int) (h1 : w.cell? ⟨g, 1, none⟩ = some (.int .i64 (n : Nat))) (hn : 0 < n) (hc : w.cell? ⟨g, 6, none⟩ = some (.int .i64 t)) :
    Calls Try.prog 12 #[.pointer (some ⟨g, 0, none⟩)] w fun e w' => e = .returned (.int .i64 t) ∧ w' = w := by
  go_enter Try.func12, Try.ntmps12
  go_wp2_with ((with_reducible refine (made_any _ _ _ h1 hn).mono ?_); rintro e w' ⟨rfl, hw'⟩; rw [hw']; clear hw' w')
  go_ret
  exact ⟨rfl, rfl⟩
theorem Leader_nil (w : World) :
    Calls Try.prog 12 #[.pointer none] w fun e w' => e = .returned (.int .i64 0) ∧ w' = w := by
  go_enter Try.func12, Try.ntmps12
  go_wp2_with ((with_reducible refine (made_nil _).mono ?_); rintro e w' ⟨rfl, hw'⟩; rw [hw']; clear hw' w')
  go_ret
  exact ⟨rfl, rfl⟩
theorem Leader_zero (w : World) (g : Nat) (h1 : w.cell? ⟨g, 1, none⟩ = some (.int .i64 0)) :
    Calls Try.prog 12 #[.pointer (some ⟨g, 0, none⟩)] w fun e w' => e = .returned (.int .i64 0) ∧ w' = w := by
  go_enter Try.func12, Try.ntmps12
  go_wp2_with ((with_reducible refine (made_zero _ _ h1).mono ?_); rintro e w' ⟨rfl, hw'⟩; rw [hw']; clear hw' w')
  go_ret
  exact ⟨rfl, rfl⟩
end Go.Proofs.Ytjodglepaeomiaa
