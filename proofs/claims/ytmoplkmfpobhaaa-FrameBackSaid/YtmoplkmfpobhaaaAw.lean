/- Contract of prompterlaw06.awake and long. -/
import Derived.Test.YtmoplkmfpobhaaaRd
namespace Go.Proofs.Ytmoplkmfpobhaaa
open Go.RowKit

theorem fr_a : frameL [97] = [1, 0, 0, 0, 121, 184, 248, 153, 97, 67, 190, 183, 232] := by decide +kernel
theorem lk_a : lookL [1, 0, 0, 0, 121, 184, 248, 153, 97, 67, 190, 183, 232] = (1, 0, 0) := by decide +kernel
theorem bd_a : bodyL [1, 0, 0, 0, 121, 184, 248, 153, 97, 67, 190, 183, 232] = [97] := by unfold bodyL; rw [lk_a]; rfl
theorem us_a : usedL [1, 0, 0, 0, 121, 184, 248, 153, 97, 67, 190, 183, 232] = 13 := by unfold usedL; rw [lk_a]; rfl

def frA : List UInt8 := [1, 0, 0, 0, 121, 184, 248, 153, 97, 67, 190, 183, 232]

set_option maxHeartbeats 400000 in
theorem awake_any (w : World) : Calls Try.prog 9 #[] w fun e w' => e = .returned (.bool true) ∧ Below w.heap.size w w' := by
  go_enter Try.func9, Try.ntmps9
  go_wp2_with fail
  have hR : Reads (w.alloc (.cells #[.int .u8 97] 5)) (w.alloc (.cells #[.int .u8 97] 5)).heap.size 1 (some ⟨w.heap.size, 0, none⟩) 1 (bcells [97]) :=
    ⟨rfl, fun _ => ⟨_, rfl, by simp, news_alloc w [.int .u8 97] 5⟩⟩
  refine (frame_ok _ 1 1 [97] _ rfl (by omega) hR).mono ?_
  rintro e w1 ⟨v, rfl, A1, c1, rfl, ho1, hb1⟩
  rw [fr_a, show ([1, 0, 0, 0, 121, 184, 248, 153, 97, 67, 190, 183, 232] : List UInt8).length = 13 from rfl] at ho1
  have hle := (own_form ho1)
  have HO1 := Lib.hid ho1
  have HB1 := Lib.hid (show Below w.heap.size w w1 from ((Below.refl _ _).alloc (Nat.le_refl _) _).trans (hb1.mono (by simp)))
  clear ho1 hb1 hR
  rw [fr_a]
  simp only [List.length_cons, List.length_nil, Nat.reduceAdd]
  go_wp2_with fail
  refine (read_any A1 13 c1 frA w1 rfl (by omega) (by obtain ⟨A, c, h, hc⟩ := hle; injection h with _ _ h3; omega) (Reads.of_own HO1.out)).mono ?_
  rintro e w2 ⟨v2, rfl, A2, c2, rfl, ho2, hb2⟩
  unfold frA at ho2 ⊢
  rw [bd_a, show ([97] : List UInt8).length = 1 from rfl] at ho2
  rw [bd_a, us_a, lk_a]
  simp only [List.length_cons, List.length_nil, Nat.reduceAdd]
  have hcv := run_str_own (P := Try.prog) w2 22 9 5 w1.heap.size (.slice A2 1 c2) 1 [97] Try.underlying22 Try.underlying5 Try.underlying9 rfl ho2
  have HB2 := Lib.hid (HB1.out.trans (hb2.mono HB1.out.size))
  clear ho2 hb2 hle
  go_wp2_with fail
  go_ret
  exact ⟨rfl, HB2.out⟩

theorem long_any (A : Option Addr) (n cap : Nat) (w : World) (hn : n ≤ 9223372036854775807) :
    Calls Try.prog 10 #[.slice A n cap] w fun e w' => e = .returned (.bool (decide (3000 < n) && decide (n ≤ 65536))) ∧ w = w' := by
  by_cases h1 : 3000 < n
  · by_cases h2 : n ≤ 65536
    · go_enter Try.func10, Try.ntmps10
      go_wp2
      go_ret
      exact ⟨ret_bool (by simp [h1]; omega), rfl⟩
    · go_enter Try.func10, Try.ntmps10
      go_wp2
      go_ret
      exact ⟨ret_bool (by simp [h1]; omega), rfl⟩
  · go_enter Try.func10, Try.ntmps10
    go_wp2
    go_ret
    exact ⟨ret_bool (by simp), rfl⟩
end Go.Proofs.Ytmoplkmfpobhaaa
