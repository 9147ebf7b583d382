/- Contract of the document's majority. -/
import Derived.Test.YtjodglepaeomiaaRag
namespace Go.Proofs.Ytjodglepaeomiaa
open Go.RowKit

def vcount (V : List Bool) : Nat → Nat
  | 0 => 0
  | k + 1 => vcount V k + if V.getD k false then 1 else 0
theorem vcount_le (V : List Bool) : ∀ k, vcount V k ≤ k
  | 0 => Nat.le_refl _
  | k + 1 => by have := vcount_le V k; rw [vcount]; split <;> omega
theorem vcount_ones {V : List Bool} {v n : Nat} (h : ∀ k, k < 7 → V.getD k false = v.testBit k) : ∀ k, k ≤ 7 → vcount V k = ones v k
  | 0, _ => rfl
  | k + 1, hk => by rw [vcount, ones, vcount_ones (n := n) h k (by omega), h k (by omega)]
theorem ones_high {v n : Nat} (hv : v < 2 ^ n) : ∀ k, n ≤ k → ones v k = ones v n
  | 0, h => by rw [show n = 0 by omega]
  | k + 1, h => by
    by_cases hk : n ≤ k
    · rw [ones, ones_high hv k hk, Nat.testBit_lt_two_pow (Nat.lt_of_lt_of_le hv (Nat.pow_le_pow_right (by decide) hk))]
      rfl
    · rw [show n = k + 1 by omega]
set_option maxRecDepth 100000 in
set_option maxHeartbeats 4000000 in
theorem majority_any (S : Sv) (g : Nat) (A : Option Addr) (c : Nat) (V : List Bool) (P : List (Nat × Nat)) (w : World) (hS : RvM w g S A c V P) (hn : S.n ≤ 7) :
    Calls Try.prog 76 #[.pointer (some ⟨g, 0, none⟩)] w fun e w' => e = .returned (.bool (decide (S.n < 2 * vcount V S.n))) ∧ w' = w := by
  have HM := Lib.hid hS
  have c1 := hS.c1
  obtain ⟨n, hnn⟩ : ∃ n, n = S.n := ⟨_, rfl⟩
  rw [← hnn] at hn c1 ⊢
  clear hS hnn
  go_enter Try.func76, Try.ntmps76
  go_wp2_with fail
  go_loopw [3, 4] (fun s3 s4 wr => ∃ k : Nat, s3 = .int .i64 (vcount V k : Nat) ∧ s4 = .int .i64 (k : Nat) ∧ k ≤ n ∧ wr = w) (fun _ s4 _ => n - (intOf s4).toNat)
  case atStart => exact ⟨0, rfl, rfl, by omega, rfl⟩
  case round =>
    obtain ⟨k, rfl, rfl, hk, rfl⟩ := hrel
    have hle := vcount_le V k
    by_cases hlt : k < n
    · have d2 : decide ((k : Int) < (n : Int)) = true := decide_eq_true (by omega)
      have i0 : (0 : Int) ≤ (k : Int) := by omega
      have i7 : (k : Int) < 7 := by omega
      have jv := HM.out.cv (show k < 7 by omega)
      have HV := Lib.hid (show vcount V (k + 1) = vcount V k + if V.getD k false then 1 else 0 from rfl)
      cases hb : V.getD k false
      · rw [hb] at jv HV
        generalize vcount V k = hv at *
        go_wp2_with fail
        go_roundw
        case rel => exact ⟨k + 1, by rw [HV.out]; go_num, by go_num, by omega, trivial⟩
        case measure => simp [intOf]; omega
      · rw [hb] at jv HV
        generalize vcount V k = hv at *
        go_wp2_with fail
        go_roundw
        case rel => exact ⟨k + 1, by rw [HV.out]; go_num, by go_num, by omega, trivial⟩
        case measure => simp [intOf]; omega
    · have d2 : decide ((k : Int) < (n : Int)) = false := decide_eq_false (by omega)
      obtain rfl : k = n := by omega
      go_wp2_with fail
      go_ret
      refine ⟨?_, rfl⟩
      have e : decide ((k : Int) / 2 < ((vcount V k : Nat) : Int)) = decide (k < 2 * vcount V k) := by rw [decide_eq_decide]; omega
      show Ending.returned (Value.bool (decide ((k : Int) / 2 < ((vcount V k : Nat) : Int)))) = _
      rw [e]
end Go.Proofs.Ytjodglepaeomiaa
