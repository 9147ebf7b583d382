/- RetryRises where the policy may not be, or the attempt is none. -/
import Derived.Test.YticcicdbncmfbaaDw
namespace Go.Proofs.Yticcicdbncmfbaa
open Go.RowKit

set_option maxHeartbeats 1000000 in
set_option maxRecDepth 100000 in
theorem rises_bad (F C N D M S : Int) (A : Option Addr) (L K : Nat) (l : List Int) (at_ : Int) (x y : Value) (w : World) (hrow : InRow w A L K l) (hM : ¬ (May F C N D M S L ∧ 1 ≤ at_)) :
    Calls Try.prog 5 #[.agg #[.int .i64 F, .int .i64 C, .int .i64 N, .int .i64 D, .int .i64 M, .int .i64 S, .slice A L K], .int .i64 at_, x, y] w fun e w' => e = .returned (.bool true) ∧ Below w.heap.size w w' := by
  have hL : L ≤ 9223372036854775807 := hrow.2.2.2.1
  have HR := Lib.hid hrow
  clear hrow
  go_enter Try.func5, Try.ntmps5
  go_wp2_with fail
  refine (awake_any _).mono ?_
  rintro e w1 ⟨rfl, hb1⟩
  have hP := (Blk.new w 24 #[.int .i64 F, .int .i64 C, .int .i64 N, .int .i64 D, .int .i64 M, .int .i64 S, .slice A L K]).below hb1 (by simp)
  have hB := ((Below.refl w.heap.size w).alloc (Nat.le_refl _) (.cells #[.int .i64 F, .int .i64 C, .int .i64 N, .int .i64 D, .int .i64 M, .int .i64 S, .slice A L K] 24)).trans (hb1.mono (by simp))
  have hs : w.heap.size < w1.heap.size := by have := hb1.size; simp at this; omega
  have hrw : InRow w1 A L K l := (HR.out.alloc _).below hb1
  clear hb1
  go_wp2_with (refine wpList_load_row rfl 24 _ rfl w.heap.size rfl 24 _ (0, 0) _ hP Try.underlying24 rfl (by kernel_rfl) ?_)
  refine (policy_any F C N D M S A L K l w1 hrw).mono ?_
  rintro e w2 ⟨A', K', rfl, _, hb2⟩
  have HPz := Lib.hid ((hP.below hb2 hs).alloc (.cells #[.int .i64 F, .int .i64 C, .int .i64 N, .int .i64 D, .int .i64 M, .int .i64 S, .slice A' L K'] 24))
  have HBz := Lib.hid ((hB.trans (hb2.mono hB.size)).alloc (Nat.le_trans hB.size hb2.size) (.cells #[.int .i64 F, .int .i64 C, .int .i64 N, .int .i64 D, .int .i64 M, .int .i64 S, .slice A' L K'] 24))
  have hs2 : w.heap.size < w2.heap.size := Nat.lt_of_lt_of_le hs hb2.size
  clear hb2 hP hB hs hrw
  obtain ⟨b9, hb9⟩ : ∃ b, b = w2.heap.size := ⟨_, rfl⟩
  have HXz := Lib.hid (Blk.new w2 24 #[.int .i64 F, .int .i64 C, .int .i64 N, .int .i64 D, .int .i64 M, .int .i64 S, .slice A' L K'])
  have hsz : (w2.alloc (.cells #[.int .i64 F, .int .i64 C, .int .i64 N, .int .i64 D, .int .i64 M, .int .i64 S, .slice A' L K'] 24)).heap.size = b9 + 1 := by simp [hb9]
  rw [← hb9] at HXz hs2
  go_wp2_with fail
  rw [← hb9]
  obtain ⟨w3, hw3⟩ : ∃ w3, w3 = w2.alloc (.cells #[.int .i64 F, .int .i64 C, .int .i64 N, .int .i64 D, .int .i64 M, .int .i64 S, .slice A' L K'] 24) := ⟨_, rfl⟩
  rw [← hw3] at HPz HBz HXz hsz ⊢
  have HX3 := Lib.hid HXz.out
  have HP3 := Lib.hid HPz.out
  have HB3 := Lib.hid HBz.out
  have s9_3 : b9 < w3.heap.size := by omega
  have s0_3 : w.heap.size < w3.heap.size := by omega
  clear hw3 hb9 HPz HBz HXz hsz hs2
  go_wp2_with (refine wpList_load_row rfl 24 _ rfl b9 rfl 24 _ (0, 0) _ HX3.out Try.underlying24 rfl (by kernel_rfl) ?_)
  refine (wait_bad F C N D M S A' L K' at_ w3 hL hM).mono ?_
  rintro e w4 ⟨rfl, hb4⟩
  have HX4 := Lib.hid (HX3.out.below hb4 s9_3)
  have HP4 := Lib.hid (HP3.out.below hb4 s0_3)
  have HB4 := Lib.hid (HB3.out.trans (hb4.mono HB3.out.size))
  have s9_4 : b9 < w4.heap.size := Nat.lt_of_lt_of_le s9_3 hb4.size
  have s0_4 : w.heap.size < w4.heap.size := Nat.lt_of_lt_of_le s0_3 hb4.size
  clear hb4 HX3 HP3 HB3 s9_3 s0_3
  have q0 : w4.cell? ⟨b9, 0, none⟩ = some (.int .i64 F) := HX4.out.cell 0
  have q1 : w4.cell? ⟨b9, 1, none⟩ = some (.int .i64 C) := HX4.out.cell 1
  have q2 : w4.cell? ⟨b9, 2, none⟩ = some (.int .i64 N) := HX4.out.cell 2
  have q3 : w4.cell? ⟨b9, 3, none⟩ = some (.int .i64 D) := HX4.out.cell 3
  have q4 : w4.cell? ⟨b9, 4, none⟩ = some (.int .i64 M) := HX4.out.cell 4
  have q5 : w4.cell? ⟨b9, 5, none⟩ = some (.int .i64 S) := HX4.out.cell 5
  have q6 : w4.cell? ⟨b9, 6, none⟩ = some (.slice A' L K') := HX4.out.cell 6
  go_wp2_with fail
  refine (check_any F C N D M S A' L K' w4 hL).mono ?_
  rintro e w5 ⟨rfl, hb5⟩
  have HX5 := Lib.hid (HX4.out.below hb5 s9_4)
  have HP5 := Lib.hid (HP4.out.below hb5 s0_4)
  have HB5 := Lib.hid (HB4.out.trans (hb5.mono HB4.out.size))
  have s9_5 : b9 < w5.heap.size := Nat.lt_of_lt_of_le s9_4 hb5.size
  have s0_5 : w.heap.size < w5.heap.size := Nat.lt_of_lt_of_le s0_4 hb5.size
  clear hb5 HX4 HP4 HB4 s9_4 s0_4
  by_cases hm : May F C N D M S L
  · have hw : at_ < 1 := by
      rcases Int.lt_or_le at_ 1 with h | h
      · exact h
      · exact (hM ⟨hm, h⟩).elim
    rw [err_yes hm]
    go_wp2_with fail
    go_ret
    exact ⟨rfl, HB5.out⟩
  · rw [err_no hm]
    go_wp2_with fail
    go_ret
    exact ⟨rfl, HB5.out⟩
end Go.Proofs.Yticcicdbncmfbaa
