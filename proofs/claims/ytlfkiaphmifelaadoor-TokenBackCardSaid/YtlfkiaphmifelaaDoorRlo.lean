/- Contracts of the document's low, dig. -/
import Derived.Test.YtlfkiaphmifelaaDoorNum
import Derived.Test.YtlfkiaphmifelaaDoorAls
namespace Go.Proofs.YtlfkiaphmifelaaDoor
open Go.RowKit

theorem low_any (c : UInt8) (w : World) : Calls Tryd.prog 31 #[.int .u8 (c.toNat : Nat)] w fun e w' => e = .returned (.bool (lowB c)) ∧ w' = w := by
  have HC : Hid (lowB c = (decide (97 ≤ c.toNat) && decide (c.toNat ≤ 122))) := rfl
  have h1 : c.toNat < 256 := UInt8.toNat_lt _
  generalize c.toNat = x at *
  by_cases ha : 97 ≤ x
  · by_cases hb : x ≤ 122
    · go_enter Tryd.func31, Tryd.ntmps31
      go_wp2_with fail
      go_ret
      exact ⟨by rw [HC.out]; simp [ha, hb]; omega, rfl⟩
    · go_enter Tryd.func31, Tryd.ntmps31
      go_wp2_with fail
      go_ret
      exact ⟨by rw [HC.out]; simp [ha, hb]; omega, rfl⟩
  · go_enter Tryd.func31, Tryd.ntmps31
    go_wp2_with fail
    go_ret
    exact ⟨by rw [HC.out]; simp [ha], rfl⟩
theorem dig_any (c : UInt8) (w : World) : Calls Tryd.prog 39 #[.int .u8 (c.toNat : Nat)] w fun e w' => e = .returned (.bool (digB c)) ∧ w' = w := by
  have HC : Hid (digB c = (decide (48 ≤ c.toNat) && decide (c.toNat ≤ 57))) := rfl
  have h1 : c.toNat < 256 := UInt8.toNat_lt _
  generalize c.toNat = x at *
  by_cases ha : 48 ≤ x
  · by_cases hb : x ≤ 57
    · go_enter Tryd.func39, Tryd.ntmps39
      go_wp2_with fail
      go_ret
      exact ⟨by rw [HC.out]; simp [ha, hb]; omega, rfl⟩
    · go_enter Tryd.func39, Tryd.ntmps39
      go_wp2_with fail
      go_ret
      exact ⟨by rw [HC.out]; simp [ha, hb]; omega, rfl⟩
  · go_enter Tryd.func39, Tryd.ntmps39
    go_wp2_with fail
    go_ret
    exact ⟨by rw [HC.out]; simp [ha], rfl⟩

end Go.Proofs.YtlfkiaphmifelaaDoor
