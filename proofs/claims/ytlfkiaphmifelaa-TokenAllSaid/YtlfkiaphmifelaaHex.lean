/- Contract of the document's Hex. -/
import Derived.Test.YtlfkiaphmifelaaWrg
namespace Go.Proofs.Ytlfkiaphmifelaa
open Go.RowKit

theorem refHex_any (c : UInt8) (w : World) : Calls Try.prog 33 #[.int .u8 (c.toNat : Nat)] w fun e w' => e = .returned (.int .i64 ((hexD c).elim (-1) fun d => (d : Int))) ∧ w' = w := by
  have HD := Lib.hid (dig_any c w)
  have HH : Hid (hexD c = if digB c then some (c.toNat - 48) else if 97 ≤ c.toNat ∧ c.toNat ≤ 102 then some (c.toNat - 87) else none) := rfl
  have HG : Hid (digB c = (decide (48 ≤ c.toNat) && decide (c.toNat ≤ 57))) := rfl
  have h1 : c.toNat < 256 := UInt8.toNat_lt _
  generalize c.toNat = x at *
  cases hd : digB c
  · rw [hd] at HD HH
    by_cases ha : 97 ≤ x
    · by_cases hb : x ≤ 102
      · have HR : Hid (hexD c = some (x - 87)) := by rw [HH.out, if_neg (by decide), if_pos ⟨ha, hb⟩]; exact rfl
        clear hd HG HH
        go_enter Try.func33, Try.ntmps33
        go_wp2_with fail
        refine HD.out.mono ?_
        rintro e w2 ⟨rfl, rfl⟩
        go_wp2_with fail
        go_ret
        exact ⟨by rw [HR.out]; exact congrArg (fun z => Ending.returned (Value.int .i64 z)) (by simp; omega), rfl⟩
      · have HR : Hid (hexD c = none) := by rw [HH.out, if_neg (by decide), if_neg (fun h => hb h.2)]; exact rfl
        clear hd HG HH
        go_enter Try.func33, Try.ntmps33
        go_wp2_with fail
        refine HD.out.mono ?_
        rintro e w2 ⟨rfl, rfl⟩
        go_wp2_with fail
        go_ret
        exact ⟨by rw [HR.out]; rfl, rfl⟩
    · have HR : Hid (hexD c = none) := by rw [HH.out, if_neg (by decide), if_neg (fun h => ha h.1)]; exact rfl
      clear hd HG HH
      go_enter Try.func33, Try.ntmps33
      go_wp2_with fail
      refine HD.out.mono ?_
      rintro e w2 ⟨rfl, rfl⟩
      go_wp2_with fail
      go_ret
      exact ⟨by rw [HR.out]; rfl, rfl⟩
  · have h2 : 48 ≤ x ∧ x ≤ 57 := by have h := HG.out; rw [hd] at h; simpa using h.symm
    obtain ⟨h3, h4⟩ := h2
    rw [hd] at HD HH
    have HR : Hid (hexD c = some (x - 48)) := by rw [HH.out, if_pos rfl]; exact rfl
    clear hd HG HH
    go_enter Try.func33, Try.ntmps33
    go_wp2_with fail
    refine HD.out.mono ?_
    rintro e w2 ⟨rfl, rfl⟩
    go_wp2_with fail
    go_ret
    exact ⟨by rw [HR.out]; exact congrArg (fun z => Ending.returned (Value.int .i64 z)) (by simp; omega), rfl⟩
end Go.Proofs.Ytlfkiaphmifelaa
