/- The walk of prompterlaw20.RetryWaits: it returns true. -/
import Derived.Test.YticcicdbncmfbaaDw
import Derived.Test.YticcicdbncmfbaaRft
import Derived.Test.YticcicdbncmfbaaCls
namespace Go.Proofs.Yticcicdbncmfbaa
open Go.RowKit

theorem wait_both (F C N D M S : Int) (A A' : Option Addr) (L K K' : Nat) (at_ : Int) (hL : L ≤ 9223372036854775807) (hC : C < 9223372036854775808) (ha : at_ < 9223372036854775808) :
    ∃ v e : Int, (∀ w, Calls Try.prog 10 #[.agg #[.int .i64 F, .int .i64 C, .int .i64 N, .int .i64 D, .int .i64 M, .int .i64 S, .slice A' L K'], .int .i64 at_] w fun x w' => x = .returned (.tuple #[.int .i64 v, .int .i64 e]) ∧ Below w.heap.size w w') ∧
      (∀ w, Calls Try.prog 11 #[.agg #[.int .i64 F, .int .i64 C, .int .i64 N, .int .i64 D, .int .i64 M, .int .i64 S, .slice A L K], .int .i64 at_] w fun x w' => x = .returned (.tuple #[.int .i64 v, .int .i64 e]) ∧ Below w.heap.size w w') := by
  by_cases hm : May F C N D M S L ∧ 1 ≤ at_
  · obtain ⟨h1, h2⟩ := hm
    have h3 := h1
    obtain ⟨k0, k1, k2, k3, _, _, _, _, _, _⟩ := h3
    obtain ⟨f, rfl⟩ : ∃ n : Nat, F = n := ⟨F.toNat, by omega⟩
    obtain ⟨c, rfl⟩ : ∃ n : Nat, C = n := ⟨C.toNat, by omega⟩
    obtain ⟨n, rfl⟩ : ∃ n : Nat, N = n := ⟨N.toNat, by omega⟩
    obtain ⟨d, rfl⟩ : ∃ n : Nat, D = n := ⟨D.toNat, by omega⟩
    obtain ⟨a, rfl⟩ : ∃ n : Nat, at_ = n := ⟨at_.toNat, by omega⟩
    exact ⟨_, _, fun w => wait_ok f c n d M S A' L K' a w h1 (by omega) (by omega) (by omega), fun w => refWait_ok f c n d M S A L K a w h1 (by omega) (by omega) (by omega)⟩
  · exact ⟨_, _, fun w => wait_bad F C N D M S A' L K' at_ w hL hm, fun w => refWait_bad F C N D M S A L K at_ w hL hm⟩

theorem total_both (F C N D M S : Int) (A A' : Option Addr) (L K K' : Nat) (hL : L ≤ 9223372036854775807) (hC : C < 9223372036854775808) :
    ∃ v e : Int, (∀ w, Calls Try.prog 12 #[.agg #[.int .i64 F, .int .i64 C, .int .i64 N, .int .i64 D, .int .i64 M, .int .i64 S, .slice A' L K']] w fun x w' => x = .returned (.tuple #[.int .i64 v, .int .i64 e]) ∧ Below w.heap.size w w') ∧
      (∀ w, Calls Try.prog 13 #[.agg #[.int .i64 F, .int .i64 C, .int .i64 N, .int .i64 D, .int .i64 M, .int .i64 S, .slice A L K]] w fun x w' => x = .returned (.tuple #[.int .i64 v, .int .i64 e]) ∧ Below w.heap.size w w') := by
  by_cases hm : May F C N D M S L
  · have h3 := hm
    obtain ⟨k0, k1, k2, k3, _, k5, _, _, _, _⟩ := h3
    obtain ⟨f, rfl⟩ : ∃ n : Nat, F = n := ⟨F.toNat, by omega⟩
    obtain ⟨c, rfl⟩ : ∃ n : Nat, C = n := ⟨C.toNat, by omega⟩
    obtain ⟨n, rfl⟩ : ∃ n : Nat, N = n := ⟨N.toNat, by omega⟩
    obtain ⟨d, rfl⟩ : ∃ n : Nat, D = n := ⟨D.toNat, by omega⟩
    obtain ⟨m, rfl⟩ : ∃ n : Nat, M = n := ⟨M.toNat, by omega⟩
    exact ⟨_, _, fun w => total_ok f c n d m S A' L K' w hm (by omega), fun w => refTotal_ok f c n d m S A L K w hm (by omega)⟩
  · exact ⟨_, _, fun w => total_bad F C N D M S A' L K' w hL hm, fun w => refTotal_bad F C N D M S A L K w hL hm⟩

theorem may_both (F C N D M S : Int) (A A' : Option Addr) (L K K' : Nat) (hL : L ≤ 9223372036854775807) :
    ∃ (b : Bool) (e : Int), ((e == 0) == b) = true ∧ (∀ w, Calls Try.prog 15 #[.agg #[.int .i64 F, .int .i64 C, .int .i64 N, .int .i64 D, .int .i64 M, .int .i64 S, .slice A' L K']] w fun x w' => x = .returned (.int .i64 e) ∧ Below w.heap.size w w') ∧
      (∀ w, Calls Try.prog 16 #[.agg #[.int .i64 F, .int .i64 C, .int .i64 N, .int .i64 D, .int .i64 M, .int .i64 S, .slice A L K]] w fun x w' => x = .returned (.bool b) ∧ Below w.heap.size w w') := by
  by_cases hm : May F C N D M S L
  · refine ⟨true, 0, rfl, fun w => ?_, fun w => ?_⟩
    · have := check_any F C N D M S A' L K' w hL
      rwa [err_yes hm] at this
    · have := may_any F C N D M S A L K w hL
      rwa [decide_eq_true hm] at this
  · refine ⟨false, 1, rfl, fun w => ?_, fun w => ?_⟩
    · have := check_any F C N D M S A' L K' w hL
      rwa [err_no hm] at this
    · have := may_any F C N D M S A L K w hL
      rwa [decide_eq_false hm] at this

set_option maxHeartbeats 2000000 in
theorem waits_walk (F C N D M S : Int) (A : Option Addr) (L K : Nat) (l : List Int) (at_ : Int) (w : World) (hrow : InRow w A L K l) (hC : C < 9223372036854775808) (ha : at_ < 9223372036854775808) :
    Calls Try.prog 3 #[.agg #[.int .i64 F, .int .i64 C, .int .i64 N, .int .i64 D, .int .i64 M, .int .i64 S, .slice A L K], .int .i64 at_] w fun e w' => e = .returned (.bool true) ∧ Below w.heap.size w w' := by
  have hL : L ≤ 9223372036854775807 := hrow.2.2.2.1
  have HR := Lib.hid hrow
  clear hrow
  go_enter Try.func3, Try.ntmps3
  go_wp2_with fail
  refine (policy_any F C N D M S A L K l _ (HR.out.alloc _)).mono ?_
  rintro e w2 ⟨A', K', rfl, _, hb2⟩
  have hP := (Blk.new w 24 #[.int .i64 F, .int .i64 C, .int .i64 N, .int .i64 D, .int .i64 M, .int .i64 S, .slice A L K]).below hb2 (by simp)
  have hB := ((Below.refl w.heap.size w).alloc (Nat.le_refl _) (.cells #[.int .i64 F, .int .i64 C, .int .i64 N, .int .i64 D, .int .i64 M, .int .i64 S, .slice A L K] 24)).trans (hb2.mono (by simp))
  have hs : w.heap.size < w2.heap.size := by have := hb2.size; simp at this; omega
  have HPz := Lib.hid (hP.alloc (.cells #[.int .i64 F, .int .i64 C, .int .i64 N, .int .i64 D, .int .i64 M, .int .i64 S, .slice A' L K'] 24))
  have HBz := Lib.hid (hB.alloc hB.size (.cells #[.int .i64 F, .int .i64 C, .int .i64 N, .int .i64 D, .int .i64 M, .int .i64 S, .slice A' L K'] 24))
  clear hb2 hP hB
  obtain ⟨b9, hb9⟩ : ∃ b, b = w2.heap.size := ⟨_, rfl⟩
  have HXz := Lib.hid (Blk.new w2 24 #[.int .i64 F, .int .i64 C, .int .i64 N, .int .i64 D, .int .i64 M, .int .i64 S, .slice A' L K'])
  have hsz : (w2.alloc (.cells #[.int .i64 F, .int .i64 C, .int .i64 N, .int .i64 D, .int .i64 M, .int .i64 S, .slice A' L K'] 24)).heap.size = b9 + 1 := by simp [hb9]
  rw [← hb9] at HXz hs
  obtain ⟨v1, e1, c1, c2⟩ := wait_both F C N D M S A A' L K K' at_ hL hC ha
  obtain ⟨v2, e2, c3, c4⟩ := total_both F C N D M S A A' L K K' hL hC
  obtain ⟨b, e3, he, c5, c6⟩ := may_both F C N D M S A A' L K K' hL
  have HC1 := Lib.hid c1
  have HC2 := Lib.hid c2
  have HC3 := Lib.hid c3
  have HC4 := Lib.hid c4
  have HC5 := Lib.hid c5
  have HC6 := Lib.hid c6
  clear c1 c2 c3 c4 c5 c6
  go_wp2_with fail
  rw [← hb9]
  obtain ⟨w3, hw3⟩ : ∃ w3, w3 = w2.alloc (.cells #[.int .i64 F, .int .i64 C, .int .i64 N, .int .i64 D, .int .i64 M, .int .i64 S, .slice A' L K'] 24) := ⟨_, rfl⟩
  rw [← hw3] at HPz HBz HXz hsz ⊢
  have HX := Lib.hid HXz.out
  have HP := Lib.hid HPz.out
  have HB := Lib.hid HBz.out
  have s9 : b9 < w3.heap.size := by omega
  have s0 : w.heap.size < w3.heap.size := by omega
  clear hw3 hb9 HPz HBz HXz hsz hs
  go_wp2_with (refine wpList_load_row rfl 24 _ rfl b9 rfl 24 _ (0, 0) _ HX.out Try.underlying24 rfl (by kernel_rfl) ?_)
  refine (HC1.out w3).mono ?_
  rintro e w4 ⟨rfl, hb⟩
  have HX := Lib.hid (HX.out.below hb s9); have HP := Lib.hid (HP.out.below hb s0); have HB := Lib.hid (HB.out.trans (hb.mono HB.out.size)); have s9 := Nat.lt_of_lt_of_le s9 hb.size; have s0 := Nat.lt_of_lt_of_le s0 hb.size; clear hb
  go_wp2_with (refine wpList_load_row rfl 24 _ rfl w.heap.size rfl 24 _ (0, 0) _ HP.out Try.underlying24 rfl (by kernel_rfl) ?_)
  refine (HC2.out w4).mono ?_
  rintro e w5 ⟨rfl, hb⟩
  have HX := Lib.hid (HX.out.below hb s9); have HP := Lib.hid (HP.out.below hb s0); have HB := Lib.hid (HB.out.trans (hb.mono HB.out.size)); have s9 := Nat.lt_of_lt_of_le s9 hb.size; have s0 := Nat.lt_of_lt_of_le s0 hb.size; clear hb
  go_wp2_with (refine wpList_load_row rfl 24 _ rfl b9 rfl 24 _ (0, 0) _ HX.out Try.underlying24 rfl (by kernel_rfl) ?_)
  refine (HC3.out w5).mono ?_
  rintro e w6 ⟨rfl, hb⟩
  have HX := Lib.hid (HX.out.below hb s9); have HP := Lib.hid (HP.out.below hb s0); have HB := Lib.hid (HB.out.trans (hb.mono HB.out.size)); have s9 := Nat.lt_of_lt_of_le s9 hb.size; have s0 := Nat.lt_of_lt_of_le s0 hb.size; clear hb
  go_wp2_with (refine wpList_load_row rfl 24 _ rfl w.heap.size rfl 24 _ (0, 0) _ HP.out Try.underlying24 rfl (by kernel_rfl) ?_)
  refine (HC4.out w6).mono ?_
  rintro e w7 ⟨rfl, hb⟩
  have HX := Lib.hid (HX.out.below hb s9); have HP := Lib.hid (HP.out.below hb s0); have HB := Lib.hid (HB.out.trans (hb.mono HB.out.size)); have s9 := Nat.lt_of_lt_of_le s9 hb.size; have s0 := Nat.lt_of_lt_of_le s0 hb.size; clear hb
  go_wp2_with fail
  clear HC1 HC2 HC3 HC4 HR hC ha
  have gX := Lib.hid (fun (W : World) (h : ∃ n : Over w7.heap.size w7, W = n.at) => (by obtain ⟨n, rfl⟩ := h; exact HX.out.below n.bel s9 : W.heap[b9]? = some (.cells #[.int .i64 F, .int .i64 C, .int .i64 N, .int .i64 D, .int .i64 M, .int .i64 S, .slice A' L K'] 24 (0, 0))))
  have gP := Lib.hid (fun (W : World) (h : ∃ n : Over w7.heap.size w7, W = n.at) => (by obtain ⟨n, rfl⟩ := h; exact HP.out.below n.bel s0 : W.heap[w.heap.size]? = some (.cells #[.int .i64 F, .int .i64 C, .int .i64 N, .int .i64 D, .int .i64 M, .int .i64 S, .slice A L K] 24 (0, 0))))
  refine wp_region_over (B := w7.heap.size) (by kernel_rfl) (by kernel_rfl) ?_
  go_big_quiet_step (exact Calls.over (Over.size _) (awake_any _))
  go_big_quiet_step (fail)
  refine wpQuiet_load_row rfl 24 _ rfl b9 rfl 24 _ (0, 0) _ gX.out Try.underlying24 rfl (by kernel_rfl) ?_
  simp only [Act.put, List.setIfInBounds_toArray, List.set_cons_succ, List.set_cons_zero]
  go_big_quiet_step (exact Calls.over (Over.size _) (HC5.out _))
  go_big_quiet_step (fail)
  refine wpQuiet_load_row rfl 24 _ rfl w.heap.size rfl 24 _ (0, 0) _ gP.out Try.underlying24 rfl (by kernel_rfl) ?_
  simp only [Act.put, List.setIfInBounds_toArray, List.set_cons_succ, List.set_cons_zero]
  go_big_quiet_step (exact Calls.over (Over.size _) (HC6.out _))
  repeat (go_big_quiet_step (fail))
  refine wpQuiet_nil ?_
  rintro _ ⟨nq, rfl⟩
  have HB := Lib.hid (HB.out.trans (nq.bel.mono HB.out.size))
  go_wp2_with fail
  go_ret
  exact ⟨rfl, HB.out⟩
end Go.Proofs.Yticcicdbncmfbaa
