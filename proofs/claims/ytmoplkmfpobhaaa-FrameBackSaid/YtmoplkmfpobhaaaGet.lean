/- Contracts of frame.get and prompterref06.number: the number of four bytes. -/
import Derived.Test.YtmoplkmfpobhaaaFrm
import Derived.Deep.QuietTactic
import Derived.BigQuiet
namespace Go.Proofs.Ytmoplkmfpobhaaa
open Go.RowKit

theorem getD_get (l : List UInt8) (j : Nat) (h : j < l.length) : l.getD j 0 = l[j] := by
  rw [List.getD_eq_getElem?_getD, List.getElem?_eq_getElem h]; rfl
theorem num4_get (l : List UInt8) (h : 4 ≤ l.length) : num4 l = l[0].toNat + 256 * l[1].toNat + 65536 * l[2].toNat + 16777216 * l[3].toNat := by
  unfold num4
  rw [getD_get l 0 (by omega), getD_get l 1 (by omega), getD_get l 2 (by omega), getD_get l 3 (by omega)]
theorem orGo (x0 x1 x2 x3 : Nat) (h0 : x0 < 256) (h1 : x1 < 256) (h2 : x2 < 256) (h3 : x3 < 256) :
    bits BinOp.or IntKind.u32 (bits BinOp.or IntKind.u32 (bits BinOp.or IntKind.u32 (x0 : Int) ((x1 : Int) * 256)) ((x2 : Int) * 65536)) ((x3 : Int) * 16777216) = ((x0 + 256 * x1 + 65536 * x2 + 16777216 * x3 : Nat) : Int) := by
  have e1 : x0 ||| x1 * 256 = x0 + 256 * x1 := by
    rw [Nat.or_comm, Nat.mul_comm x1 256, ← Nat.two_pow_add_eq_or_of_lt (i := 8) h0 x1]; omega
  have e2 : (x0 + 256 * x1) ||| x2 * 65536 = x0 + 256 * x1 + 65536 * x2 := by
    rw [Nat.or_comm, Nat.mul_comm x2 65536, ← Nat.two_pow_add_eq_or_of_lt (i := 16) (by omega) x2]; omega
  have e3 : (x0 + 256 * x1 + 65536 * x2) ||| x3 * 16777216 = x0 + 256 * x1 + 65536 * x2 + 16777216 * x3 := by
    rw [Nat.or_comm, Nat.mul_comm x3 16777216, ← Nat.two_pow_add_eq_or_of_lt (i := 24) (by omega) x3]; omega
  rw [show (x1 : Int) * 256 = ((x1 * 256 : Nat) : Int) from by omega, show (x2 : Int) * 65536 = ((x2 * 65536 : Nat) : Int) from by omega, show (x3 : Int) * 16777216 = ((x3 * 16777216 : Nat) : Int) from by omega]
  rw [u32_or_nat _ _ (by omega) (by omega), e1, u32_or_nat _ _ (by omega) (by omega), e2, u32_or_nat _ _ (by omega) (by omega), e3]

set_option maxHeartbeats 400000 in
theorem get_any (A : Option Addr) (n cap : Nat) (l : List UInt8) (w : World) (hl : l.length = n) (hn : 4 ≤ n) (hn2 : n ≤ 9223372036854775807) (B : Nat) (hr : Reads w B 1 A n (bcells l)) :
    Calls Try.prog 31 #[.slice A n cap] w fun e w' => e = .returned (.int .u32 (num4 l)) ∧ ∃ m, w' = w.drewN m := by
  obtain ⟨b, off, rfl, _, hc⟩ := hr.bytes (by omega)
  have c0 := hc 0 (by omega)
  have c1 := hc 1 (by omega)
  have c2 := hc 2 (by omega)
  have c3 := hc 3 (by omega)
  have g0 : l[0].toNat < 256 := UInt8.toNat_lt _
  have g1 : l[1].toNat < 256 := UInt8.toNat_lt _
  have g2 : l[2].toNat < 256 := UInt8.toNat_lt _
  have g3 : l[3].toNat < 256 := UInt8.toNat_lt _
  have HV := Lib.hid (show num4 l = l[0].toNat + 256 * l[1].toNat + 65536 * l[2].toNat + 16777216 * l[3].toNat by
    exact num4_get l (by omega))
  generalize l[0].toNat = x0 at c0 g0 HV
  generalize l[1].toNat = x1 at c1 g1 HV
  generalize l[2].toNat = x2 at c2 g2 HV
  generalize l[3].toNat = x3 at c3 g3 HV
  rw [Nat.add_zero] at c0
  clear hc hr
  go_enter Try.func31, Try.ntmps31
  go_wp2
  go_quiet (fail)
  go_wp2
  go_ret
  exact ⟨ret_int (by rw [HV.out]; exact orGo x0 x1 x2 x3 g0 g1 g2 g3), nq, rfl⟩

def accK (l : List UInt8) : Nat → Nat
  | 0 => 0
  | k + 1 => 256 * accK l k + (l.getD (3 - k) 0).toNat
theorem accK_4 (l : List UInt8) : accK l 4 = num4 l := by unfold num4; simp only [accK, Nat.sub_self, Nat.sub_zero, Nat.reduceSub]; omega
theorem accK_lt (l : List UInt8) (k : Nat) (h : k < 4) : accK l k < 16777216 := by
  have h3 := UInt8.toNat_lt (l.getD 3 0)
  have h2 := UInt8.toNat_lt (l.getD 2 0)
  have h1 := UInt8.toNat_lt (l.getD 1 0)
  have : k = 0 ∨ k = 1 ∨ k = 2 ∨ k = 3 := by omega
  rcases this with rfl | rfl | rfl | rfl <;> simp only [accK, Nat.sub_zero, Nat.reduceSub] <;> omega

set_option maxHeartbeats 400000 in
theorem number_any (A : Option Addr) (n cap : Nat) (l : List UInt8) (w : World) (hl : l.length = n) (hn : 4 ≤ n) (hn2 : n ≤ 9223372036854775807) (B : Nat) (hr : Reads w B 1 A n (bcells l)) :
    Calls Try.prog 29 #[.slice A n cap] w fun e w' => e = .returned (.int .u32 (num4 l)) ∧ w = w' := by
  obtain ⟨b, off, rfl, _, hc⟩ := hr.bytes (by omega)
  have HC := Lib.hid hc
  have HL := Lib.hid hl
  clear hc hr hl
  go_enter Try.func29, Try.ntmps29
  go_wp2
  go_loop [3, 4] (fun c i => ∃ k : Nat, k ≤ 4 ∧ i = .int .i64 (3 - (k : Int)) ∧ c = .int .u32 (accK l k)) (fun _ i => (intOf i + 1).toNat)
  case atStart => exact ⟨0, by omega, rfl, rfl⟩
  case round =>
    obtain ⟨k, hk, rfl, rfl⟩ := hrel
    by_cases hlt : k < 4
    · have hj : 3 - k < l.length := by rw [HL.out]; omega
      have hcell := HC.out (3 - k) hj
      have HA := Lib.hid (show accK l (k + 1) = 256 * accK l k + l[3 - k].toNat by rw [accK, getD_get l (3 - k) hj])
      have hac := accK_lt l k hlt
      have hb : l[3 - k].toNat < 256 := UInt8.toNat_lt _
      generalize accK l k = a at HA hac
      generalize l[3 - k].toNat = x at hcell HA hb
      go_wp2
      go_round
      case rel => exact ⟨k + 1, by omega, by go_num, by rw [HA.out]; go_num⟩
      case measure => simp [intOf]; omega
    · have hk4 : k = 4 := by omega
      subst hk4
      go_wp2
      go_ret
      exact ⟨ret_int (by rw [← accK_4 l]), rfl⟩
end Go.Proofs.Ytmoplkmfpobhaaa
