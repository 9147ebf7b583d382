/- The walk of prompterlaw06.FrameSums: it returns true. -/
import Derived.Test.YtmoplkmfpobhaaaAw
namespace Go.Proofs.Ytmoplkmfpobhaaa
open Go.RowKit

set_option maxHeartbeats 1000000 in
theorem sums_walk (A : Option Addr) (n cap : Nat) (l : List UInt8) (w : World) (hl : l.length = n) (hn : n ≤ 9223372036854775807) (hr : Reads w w.heap.size 1 A n (bcells l)) :
    Calls Try.prog 3 #[.slice A n cap] w fun e w' => e = .returned (.bool true) ∧ Below w.heap.size w w' := by
  have HL := Lib.hid hl
  have HR := Lib.hid hr
  clear hl hr
  go_enter Try.func3, Try.ntmps3
  go_wp2_with fail
  refine (awake_any w).mono ?_
  rintro e w1 ⟨rfl, hb1⟩
  have HB1 := Lib.hid hb1
  clear hb1
  go_wp2_with fail
  refine (long_any A n cap w1 hn).mono ?_
  rintro e w' ⟨rfl, rfl⟩
  by_cases h1 : 3000 < n ∧ n ≤ 65536
  · have hd : (decide (3000 < n) && decide (n ≤ 65536)) = true := by simp [h1]
    rw [hd]
    clear hd
    go_wp2_with fail
    go_ret
    exact ⟨rfl, HB1.out⟩
  · have hd : (decide (3000 < n) && decide (n ≤ 65536)) = false := by simp; omega
    rw [hd]
    clear hd
    go_wp2_with fail
    by_cases h2 : 65536 < n
    · refine (frame_long A n cap w1 h2 hn).mono ?_
      rintro e w' ⟨rfl, rfl⟩
      go_wp2_with fail
      go_ret
      exact ⟨rfl, HB1.out⟩
    · have h3 : n ≤ 3000 := by omega
      have HR1 := Lib.hid ((HR.out.below HB1.out).more HB1.out.size)
      refine (frame_ok A n cap l w1 HL.out (by omega) HR1.out).mono ?_
      rintro e w2 ⟨v, rfl, A2, c2, rfl, ho2, hb2⟩
      have HN := Lib.hid (show (frameL l).length = n + 12 by rw [frameL_length, HL.out])
      have HO2 := Lib.hid ho2
      have HB2 := Lib.hid (HB1.out.trans (hb2.mono HB1.out.size))
      have hcv : (convert 22 9 (.slice A2 (frameL l).length c2)).run Try.prog w2.drew = .ok (.string ⟨(frameL l).toArray⟩) w2.drew :=
        run_str_own w2.drew 22 9 5 w1.heap.size _ _ (frameL l) Try.underlying22 Try.underlying5 Try.underlying9 rfl ho2
      clear ho2 hb2
      go_wp2_with fail
      go_region_with (first
        | (go_at_call 12; refine (refFrame_any A n cap l _ HL.out (by omega) ((HR.out.below (Below.drew HB2.out)).more (by have := HB2.out.size; simpa using this))).mono ?_; rintro e w3 ⟨v3, rfl, A3, c3, rfl, ho3, hb3⟩; have hcv3 := run_str_own (P := Try.prog) w3 22 9 5 _ _ _ (frameL l) Try.underlying22 Try.underlying5 Try.underlying9 rfl ho3; have hcv2 := run_str_own (P := Try.prog) w3 22 9 5 _ _ _ (frameL l) Try.underlying22 Try.underlying5 Try.underlying9 rfl (own_below (w := w2.drew) HO2.out hb3); have HB3 := Lib.hid ((Below.drew HB2.out).trans (hb3.mono (by have := HB2.out.size; simpa using this))); clear ho3 hb3)
        | (go_at_call 13; refine (sum_f A n cap l w.heap.size w _ HL.out (by omega) HR.out HB3.out (Nat.le_refl _)).mono ?_; rintro e w4 ⟨rfl, hb4⟩; have HB4 := Lib.hid hb4; clear hb4)
        | (go_at_call 14; refine (refSum_any A n cap l _ HL.out (by omega) w.heap.size (HR.out.below HB4.out)).mono ?_; rintro e w5 ⟨rfl, rfl⟩))
      all_goals (go_wp2_with fail; go_ret; exact ⟨rfl, HB4.out⟩)
end Go.Proofs.Ytmoplkmfpobhaaa
