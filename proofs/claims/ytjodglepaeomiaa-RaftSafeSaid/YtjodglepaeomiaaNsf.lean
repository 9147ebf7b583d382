/- RaftSafe's walk: for every input the law returns true, and what came in stands as before. -/
import Derived.Test.YtjodglepaeomiaaNpl
import Derived.Test.YtjodglepaeomiaaAwk
namespace Go.Proofs.Ytjodglepaeomiaa
open Go.RowKit

set_option maxRecDepth 100000 in
set_option maxHeartbeats 4000000 in
theorem safe_walk (n : Int) (A : Option Addr) (c : Nat) (l : List Dd) (w : World) (hrd : RdD w A l) (hlen : l.length ≤ 9223372036854775807) (hok : ∀ x ∈ l, DdOk x) :
    Calls Try.prog 4 #[.int .i64 n, .slice A l.length c] w fun e w' => e = .returned (.bool true) ∧ Below w.heap.size w w' := by
  have HH := Lib.hid (And.intro hrd (And.intro hlen hok))
  clear hrd hlen hok
  have HAW := Lib.hid (awake_any w)
  go_enter Try.func4, Try.ntmps4
  go_wp2_with fail
  refine HAW.out.mono ?_
  rintro e w1 ⟨rfl, hb1⟩
  have HB1 := Lib.hid hb1
  clear hb1 HAW
  have HLO := Lib.hid (long_any A c l w1 (HH.out.1.below HB1.out) HH.out.2.1 HH.out.2.2)
  obtain ⟨q, hq⟩ : ∃ q, q = l.length := ⟨_, rfl⟩
  have HQ := Lib.hid hq
  rw [← hq] at HLO ⊢
  clear hq
  by_cases h1 : n < 1
  · have d1 : decide (n < (1 : Int)) = true := decide_eq_true h1
    go_wp2_with fail
    go_ret
    exact ⟨rfl, HB1.out⟩
  · have d1 : decide (n < (1 : Int)) = false := decide_eq_false h1
    by_cases h7 : n > 7
    · have d7 : decide (n > (7 : Int)) = true := decide_eq_true h7
      go_wp2_with fail
      go_ret
      exact ⟨rfl, HB1.out⟩
    · have d7 : decide (n > (7 : Int)) = false := decide_eq_false h7
      obtain ⟨R, hR⟩ : ∃ R, R = longB l := ⟨_, rfl⟩
      have HR := Lib.hid hR
      rw [← hR] at HLO
      clear hR
      go_wp2_with fail
      refine HLO.out.mono ?_
      rintro e w2 ⟨rfl, rfl⟩
      cases R
      · obtain ⟨k, rfl⟩ : ∃ k : Nat, n = (k : Int) := ⟨n.toNat, by omega⟩
        have HPL := Lib.hid (played_any (w := w2) (n := k) (by omega) (by omega) A c l (HH.out.1.below HB1.out) HH.out.2.2 HR.out.symm)
        rw [← HQ.out] at HPL
        go_wp2_with fail
        refine HPL.out.mono ?_
        rintro e w3 ⟨rfl, X, ps, way, Z, v, hU, hlen, hsu, hle, hbu, hch⟩
        have H3 := Lib.hid (Chg.below HB1.out hch HB1.out.size (fun b hb => Nat.le_trans HB1.out.size hb))
        clear hU hlen hsu hle hbu hch
        go_wp2_with fail
        go_ret
        exact ⟨rfl, H3.out⟩
      · go_wp2_with fail
        go_ret
        exact ⟨rfl, HB1.out⟩
end Go.Proofs.Ytjodglepaeomiaa
