/- The contract of the law's names: are two lists of texts the same? -/
import Derived.Deep.QuietTactic
import Derived.BigQuiet
import Derived.Test.YtnipmhidiiondaaOpn
namespace Go.Proofs.Ytnipmhidiiondaa
open Go.RowKit Go.Maps

set_option maxHeartbeats 2000000 in
theorem names_same (A B : Option Addr) (ca cb n m : Nat) (a b : List ByteArray) (w : World) (ha : RdT w A a) (hb : RdT w B b) (hn : n = a.length) (hm : m = b.length) (hn1 : n ≤ 100000) (he : a = b) :
    Calls Try.prog 24 #[.slice A n ca, .slice B m cb] w fun e w' => e = .returned (.bool true) ∧ ∃ q, w' = w.drewN q := by
  subst he
  have hmn : m = n := by rw [hn, hm]
  subst hmn
  have HA := Lib.hid ha
  have HB := Lib.hid hb
  have HN := Lib.hid hn
  clear ha hb hn hm
  go_enter Try.func24, Try.ntmps24
  go_wp2_with fail
  go_loopw [5] (fun s5 wr => ∃ i : Nat, s5 = .int .i64 i ∧ i ≤ m ∧ ∃ q, wr = w.drewN q) (fun s5 _ => m - (intOf s5).toNat)
  case atStart => exact ⟨0, rfl, by omega, 0, rfl⟩
  case round =>
    obtain ⟨i, rfl, hi, q, hw⟩ := hrel
    have HW := Lib.hid hw
    clear hw
    by_cases hlt : i < m
    · have hd1 : decide ((i : Int) < (m : Int)) = true := decide_eq_true (by omega)
      obtain ⟨x, hx⟩ : ∃ x, a[i]? = some x := ⟨_, List.getElem?_eq_getElem (by rw [← HN.out]; exact hlt)⟩
      obtain ⟨b1, o1, rfl, h1⟩ : ∃ b off, A = some ⟨b, off, none⟩ ∧ ∀ k s, a[k]? = some s → w.cell? ⟨b, off + k, none⟩ = some (.string s) := HA.out.resolve_left (fun h => by rw [h] at hx; cases hx)
      obtain ⟨b2, o2, rfl, h2⟩ : ∃ b' off, B = some ⟨b', off, none⟩ ∧ ∀ k s, a[k]? = some s → w.cell? ⟨b', off + k, none⟩ = some (.string s) := HB.out.resolve_left (fun h => by rw [h] at hx; cases hx)
      have c1 : wr.cell? ⟨b1, o1 + i, none⟩ = some (.string x) := by rw [HW.out]; exact h1 i x hx
      have c2 : wr.cell? ⟨b2, o2 + i, none⟩ = some (.string x) := by rw [HW.out]; exact h2 i x hx
      have hi0 : (0 : Int) ≤ (i : Int) := by omega
      have hin : (i : Int) < (m : Int) := by omega
      have hxx : (x.toList == x.toList) = true := beq_self_eq_true _
      clear h1 h2 hx
      go_wp2_with fail
      go_quiet (fail)
      go_wp2_with fail
      go_roundw
      case rel => exact ⟨i + 1, by go_num, by omega, q + nq, by rw [HW.out]; exact drewN_twice w q nq⟩
      case measure => simp [intOf]; omega
    · have hd1 : decide ((i : Int) < (m : Int)) = false := decide_eq_false (by omega)
      go_wp2_with fail
      go_ret
      exact ⟨rfl, q, HW.out⟩
end Go.Proofs.Ytnipmhidiiondaa
