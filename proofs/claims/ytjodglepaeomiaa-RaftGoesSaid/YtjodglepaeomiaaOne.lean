/- Contract of bits.OnesCount for few voters. -/
import Derived.Test.YtjodglepaeomiaaTic
namespace Go.Proofs.Ytjodglepaeomiaa
open Go.RowKit

set_option maxRecDepth 100000 in
set_option maxHeartbeats 8000000 in
theorem ones64_any (v : Nat) (w : World) (hv : v < 128) :
    Calls Try.prog 81 #[.int .u64 (v : Nat)] w fun e w' => e = .returned (.int .i64 (ones v 7 : Nat)) ∧ w' = w := by
  go_enter Try.func81, Try.ntmps81
  go_wp2_with fail
  go_ret
  refine ⟨congrArg Ending.returned (congrArg (Value.int .i64) ?_), rfl⟩
  clear w
  revert v
  decide +kernel
theorem ones_any (v : Nat) (w : World) (hv : v < 128) :
    Calls Try.prog 66 #[.int .u64 (v : Nat)] w fun e w' => e = .returned (.int .i64 (ones v 7 : Nat)) ∧ w' = w := by
  have HO := Lib.hid (ones64_any v w hv)
  go_enter Try.func66, Try.ntmps66
  go_wp2_with fail
  refine HO.out.mono ?_
  rintro e w1 ⟨rfl, hw1⟩
  rw [hw1]
  clear hw1 w1
  go_wp2_with fail
  go_ret
  exact ⟨rfl, rfl⟩
end Go.Proofs.Ytjodglepaeomiaa
