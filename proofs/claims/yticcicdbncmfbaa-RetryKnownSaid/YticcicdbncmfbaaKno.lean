/- The walk of prompterlaw20.RetryKnown: it returns true. -/
import Derived.Test.YticcicdbncmfbaaNw
import Derived.Test.YticcicdbncmfbaaTot
namespace Go.Proofs.Yticcicdbncmfbaa
open Go.RowKit

def zrow (n : Nat) : Array Value := Array.replicate n (.int .i64 0)
theorem made_row (n : Nat) : madeCells (Value.int .i64 0).cells n = zrow n := by
  unfold zrow
  apply Array.ext
  · rw [size_madeCells, Array.size_replicate]
  · intro i h1 h2
    rw [Array.getElem_replicate]
    simp [madeCells, Value.cells, Nat.mod_one]
theorem make_row (N : Nat) (hN : N ≤ 1000000) (w : World) : (Instr.makeSlice 22 (.int .i64 (N : Int)) (.int .i64 (N : Int))).run Try.prog w = .ok (.slice (some ⟨w.heap.size, 0, none⟩) N N) (w.alloc (.cells (zrow N) 2)) := by
  obtain ⟨i0, hi, hz0, hz1, hz2⟩ := info_parts infoI
  have h1 : (i0.bytes : Int) * (N : Int) ≤ 281474976710656 := by rw [hz2]; omega
  have hr := run_make (P := Try.prog) w 22 2 i0 (.int .i64 0) Try.underlying22 hi hz0 .i64 .i64 (N : Int) (N : Int) (by omega) (by omega) h1 (by omega)
  simp only [Int.toNat_natCast] at hr
  rw [hr, hz1, Nat.mul_one, made_row]
theorem InRow.seven {w : World} {A : Option Addr} (h : Reads w w.heap.size 1 A 1 (icells [7])) : InRow w A 1 1 [7] := ⟨h, rfl, Nat.le_refl _, by omega, by omega⟩

theorem wseq_far : wseq 1000 2 1 100 (1000000 - 1) = 1000 := by
  have h : wseq 1000 2 1 100 (4 + 1) = wseq 1000 2 1 100 4 := by decide
  have := wseq_stays h 999995
  rw [show 1000000 - 1 = 4 + 999995 by omega, this]
  decide
theorem wseq_b : wseq 9 3 2 1 (3 - 1) = 1 := by decide
theorem wseq_c : wseq 9223372036854775807 3 2 4611686018427387904 (2 - 1) = 9223372036854775807 := by decide +kernel
theorem tsum_d : satN (tsum 1000 2 1 100 (5 - 1)) = 1500 := by decide +kernel
theorem drawn_d : drawnV 50 (101 : Nat) 2147483648 = 76 := by decide +kernel

theorem k_wait (A : Option Addr) (w : World) : Calls Try.prog 10 #[.agg #[.int .i64 100, .int .i64 1000, .int .i64 2, .int .i64 1, .int .i64 5, .int .i64 0, .slice A 1 1], .int .i64 1000000] w fun e w' => e = .returned (.tuple #[.int .i64 1000, .int .i64 0]) ∧ Below w.heap.size w w' := by
  have h := wait_ok 100 1000 2 1 5 0 A 1 1 1000000 w (by decide) (by omega) (by omega) (by omega)
  rw [wseq_far] at h
  simpa using h
theorem k_wait0 (A : Option Addr) (w : World) : Calls Try.prog 10 #[.agg #[.int .i64 100, .int .i64 1000, .int .i64 2, .int .i64 1, .int .i64 5, .int .i64 0, .slice A 1 1], .int .i64 0] w fun e w' => e = .returned (.tuple #[.int .i64 0, .int .i64 1]) ∧ Below w.heap.size w w' := by
  exact wait_bad 100 1000 2 1 5 0 A 1 1 0 w (by omega) (by omega)
theorem k_total (A : Option Addr) (w : World) : Calls Try.prog 12 #[.agg #[.int .i64 100, .int .i64 1000, .int .i64 2, .int .i64 1, .int .i64 5, .int .i64 0, .slice A 1 1]] w fun e w' => e = .returned (.tuple #[.int .i64 1500, .int .i64 0]) ∧ Below w.heap.size w w' := by
  have h := total_ok 100 1000 2 1 5 0 A 1 1 w (by decide) (by omega)
  rw [tsum_d] at h
  simpa using h
theorem k_drawn (A : Option Addr) (w : World) : Calls Try.prog 17 #[.agg #[.int .i64 100, .int .i64 1000, .int .i64 2, .int .i64 1, .int .i64 5, .int .i64 50, .slice A 1 1], .int .i64 101, .int .u32 2147483648] w fun e w' => e = .returned (.tuple #[.int .i64 76, .int .i64 0]) ∧ Below w.heap.size w w' := by
  have h := drawn_ok 100 1000 2 1 5 50 A 1 1 101 2147483648 w (by decide) (by omega) (by omega)
  rw [show drawnV ((50 : Nat) : Int) ((101 : Nat) : Int) 2147483648 = 76 from drawn_d] at h
  simpa using h
theorem k_drawn0 (A : Option Addr) (w : World) : Calls Try.prog 17 #[.agg #[.int .i64 100, .int .i64 1000, .int .i64 2, .int .i64 1, .int .i64 5, .int .i64 50, .slice A 1 1], .int .i64 (-1), .int .u32 0] w fun e w' => e = .returned (.tuple #[.int .i64 0, .int .i64 1]) ∧ Below w.heap.size w w' := by
  exact drawn_bad 100 1000 2 1 5 50 A 1 1 (-1) _ w (by omega) (by omega)
theorem k_waitb (w : World) : Calls Try.prog 10 #[.agg #[.int .i64 1, .int .i64 9, .int .i64 3, .int .i64 2, .int .i64 1, .int .i64 0, .slice none 0 0], .int .i64 3] w fun e w' => e = .returned (.tuple #[.int .i64 1, .int .i64 0]) ∧ Below w.heap.size w w' := by
  have h := wait_ok 1 9 3 2 1 0 none 0 0 3 w (by decide) (by omega) (by omega) (by omega)
  rw [wseq_b] at h
  simpa using h
theorem k_waitc (w : World) : Calls Try.prog 10 #[.agg #[.int .i64 4611686018427387904, .int .i64 9223372036854775807, .int .i64 3, .int .i64 2, .int .i64 1, .int .i64 0, .slice none 0 0], .int .i64 2] w fun e w' => e = .returned (.tuple #[.int .i64 9223372036854775807, .int .i64 0]) ∧ Below w.heap.size w w' := by
  have h := wait_ok 4611686018427387904 9223372036854775807 3 2 1 0 none 0 0 2 w (by unfold May; omega) (by omega) (by omega) (by omega)
  rw [wseq_c] at h
  simpa using h
theorem k_next (A : Option Addr) (w : World) (hr : InRow w A 1 1 [7]) : Calls Try.prog 19 #[.agg #[.int .i64 100, .int .i64 1000, .int .i64 2, .int .i64 1, .int .i64 5, .int .i64 0, .slice A 1 1], .int .i64 1, .int .i64 7, .int .u32 0] w fun e w' => e = .returned (.tuple #[.int .i64 0, .bool false, .int .i64 0]) ∧ Below w.heap.size w w' := by
  have h := next_ok 100 1000 2 1 0 5 A 1 1 [7] 1 7 0 w hr (by decide) (by omega) (by omega) (by omega) (by omega)
  have hg : againB 5 1 [7] 7 = false := by decide
  rw [hg, nextV_no _ hg] at h
  simpa using h

set_option maxRecDepth 100000 in
set_option maxHeartbeats 8000000 in
theorem known_walk (w : World) : Calls Try.prog 7 #[] w fun e w' => e = .returned (.bool true) ∧ Below w.heap.size w w' := by
  have m101 : ∀ W, (Instr.makeSlice 22 (.int .i64 101) (.int .i64 101)).run Try.prog W = .ok (.slice (some ⟨W.heap.size, 0, none⟩) 101 101) (W.alloc (.cells (zrow 101) 2)) := fun W => make_row 101 (by omega) W
  have M101 := Lib.hid m101
  clear m101
  go_enter Try.func7, Try.ntmps7
  go_wp2_with fail
  refine (doubling_any w).mono ?_
  rintro e w1 ⟨A, rfl, hq, hb1⟩
  have HPz := Lib.hid ((Blk.new w1 24 #[.int .i64 100, .int .i64 1000, .int .i64 2, .int .i64 1, .int .i64 5, .int .i64 0, .slice A 1 1]).alloc (.cells #[.int .i64 100, .int .i64 1000, .int .i64 2, .int .i64 1, .int .i64 5, .int .i64 50, .slice A 1 1] 24))
  have HSz := Lib.hid (Blk.new (w1.alloc (.cells #[.int .i64 100, .int .i64 1000, .int .i64 2, .int .i64 1, .int .i64 5, .int .i64 0, .slice A 1 1] 24)) 24 #[.int .i64 100, .int .i64 1000, .int .i64 2, .int .i64 1, .int .i64 5, .int .i64 50, .slice A 1 1])
  have HBz := Lib.hid ((hb1.alloc hb1.size (.cells #[.int .i64 100, .int .i64 1000, .int .i64 2, .int .i64 1, .int .i64 5, .int .i64 0, .slice A 1 1] 24)).alloc (Nat.le_trans hb1.size (by simp)) (.cells #[.int .i64 100, .int .i64 1000, .int .i64 2, .int .i64 1, .int .i64 5, .int .i64 50, .slice A 1 1] 24))
  have HQz := Lib.hid ((InRow.alloc (.seven hq) (.cells #[.int .i64 100, .int .i64 1000, .int .i64 2, .int .i64 1, .int .i64 5, .int .i64 0, .slice A 1 1] 24)).alloc (.cells #[.int .i64 100, .int .i64 1000, .int .i64 2, .int .i64 1, .int .i64 5, .int .i64 50, .slice A 1 1] 24))
  have hsz : ((w1.alloc (.cells #[.int .i64 100, .int .i64 1000, .int .i64 2, .int .i64 1, .int .i64 5, .int .i64 0, .slice A 1 1] 24)).alloc (.cells #[.int .i64 100, .int .i64 1000, .int .i64 2, .int .i64 1, .int .i64 5, .int .i64 50, .slice A 1 1] 24)).heap.size = w1.heap.size + 2 := by simp
  simp only [World.size_alloc] at HSz
  clear hq hb1
  go_wp2_with fail
  obtain ⟨b1, hb1'⟩ : ∃ b, b = w1.heap.size := ⟨_, rfl⟩
  rw [← hb1'] at HPz HSz hsz ⊢
  obtain ⟨b2, hb2'⟩ : ∃ b, b = b1 + 1 := ⟨_, rfl⟩
  rw [← hb2'] at HSz ⊢
  obtain ⟨w3, hw3⟩ : ∃ w3, w3 = (w1.alloc (.cells #[.int .i64 100, .int .i64 1000, .int .i64 2, .int .i64 1, .int .i64 5, .int .i64 0, .slice A 1 1] 24)).alloc (.cells #[.int .i64 100, .int .i64 1000, .int .i64 2, .int .i64 1, .int .i64 5, .int .i64 50, .slice A 1 1] 24) := ⟨_, rfl⟩
  rw [← hw3] at HPz HBz HSz HQz hsz ⊢
  have HP := Lib.hid HPz.out
  have HS := Lib.hid HSz.out
  have HQ := Lib.hid HQz.out
  have HB := Lib.hid HBz.out
  have s1 : b1 < w3.heap.size := by omega
  have s2 : b2 < w3.heap.size := by omega
  clear hw3 hb1' hb2' HPz HBz HSz HQz hsz
  refine (k_wait A w3).mono ?_
  rintro e w4 ⟨rfl, hb⟩
  have HP := Lib.hid (HP.out.below hb s1); have HS := Lib.hid (HS.out.below hb s2); have HQ := Lib.hid (HQ.out.below hb); have HB := Lib.hid (HB.out.trans (hb.mono HB.out.size)); have s1 := Nat.lt_of_lt_of_le s1 hb.size; have s2 := Nat.lt_of_lt_of_le s2 hb.size; clear hb
  go_wp2_with (refine wpList_load_row rfl 24 _ rfl b1 rfl 24 _ (0, 0) _ HP.out Try.underlying24 rfl (by kernel_rfl) ?_)
  refine (k_wait0 A w4).mono ?_
  rintro e w5 ⟨rfl, hb⟩
  have HP := Lib.hid (HP.out.below hb s1); have HS := Lib.hid (HS.out.below hb s2); have HQ := Lib.hid (HQ.out.below hb); have HB := Lib.hid (HB.out.trans (hb.mono HB.out.size)); have s1 := Nat.lt_of_lt_of_le s1 hb.size; have s2 := Nat.lt_of_lt_of_le s2 hb.size; clear hb
  go_wp2_with (refine wpList_load_row rfl 24 _ rfl b1 rfl 24 _ (0, 0) _ HP.out Try.underlying24 rfl (by kernel_rfl) ?_)
  refine (k_total A w5).mono ?_
  rintro e w6 ⟨rfl, hb⟩
  have HP := Lib.hid (HP.out.below hb s1); have HS := Lib.hid (HS.out.below hb s2); have HQ := Lib.hid (HQ.out.below hb); have HB := Lib.hid (HB.out.trans (hb.mono HB.out.size)); have s1 := Nat.lt_of_lt_of_le s1 hb.size; have s2 := Nat.lt_of_lt_of_le s2 hb.size; clear hb
  go_wp2_with (refine wpList_load_row rfl 24 _ rfl b2 rfl 24 _ (0, 0) _ HS.out Try.underlying24 rfl (by kernel_rfl) ?_)
  refine (k_drawn A w6).mono ?_
  rintro e w7 ⟨rfl, hb⟩
  have HP := Lib.hid (HP.out.below hb s1); have HS := Lib.hid (HS.out.below hb s2); have HQ := Lib.hid (HQ.out.below hb); have HB := Lib.hid (HB.out.trans (hb.mono HB.out.size)); have s1 := Nat.lt_of_lt_of_le s1 hb.size; have s2 := Nat.lt_of_lt_of_le s2 hb.size; clear hb
  go_wp2_with (refine wpList_load_row rfl 24 _ rfl b2 rfl 24 _ (0, 0) _ HS.out Try.underlying24 rfl (by kernel_rfl) ?_)
  refine (k_drawn0 A w7).mono ?_
  rintro e w8 ⟨rfl, hb⟩
  have HP := Lib.hid (HP.out.below hb s1); have HS := Lib.hid (HS.out.below hb s2); have HQ := Lib.hid (HQ.out.below hb); have HB := Lib.hid (HB.out.trans (hb.mono HB.out.size)); have s1 := Nat.lt_of_lt_of_le s1 hb.size; have s2 := Nat.lt_of_lt_of_le s2 hb.size; clear hb
  go_wp2_with fail
  refine (k_waitb w8).mono ?_
  rintro e w9 ⟨rfl, hb⟩
  have HP := Lib.hid (HP.out.below hb s1); have HS := Lib.hid (HS.out.below hb s2); have HQ := Lib.hid (HQ.out.below hb); have HB := Lib.hid (HB.out.trans (hb.mono HB.out.size)); have s1 := Nat.lt_of_lt_of_le s1 hb.size; have s2 := Nat.lt_of_lt_of_le s2 hb.size; clear hb
  go_wp2_with fail
  refine (k_waitc w9).mono ?_
  rintro e w10 ⟨rfl, hb⟩
  have HP := Lib.hid (HP.out.below hb s1); have HS := Lib.hid (HS.out.below hb s2); have HQ := Lib.hid (HQ.out.below hb); have HB := Lib.hid (HB.out.trans (hb.mono HB.out.size)); have s1 := Nat.lt_of_lt_of_le s1 hb.size; have s2 := Nat.lt_of_lt_of_le s2 hb.size; clear hb
  go_wp2_with (refine wpList_load_row rfl 24 _ rfl b1 rfl 24 _ (0, 0) _ HP.out Try.underlying24 rfl (by kernel_rfl) ?_)
  refine (k_next A w10 HQ.out).mono ?_
  rintro e w11 ⟨rfl, hb⟩
  have HP := Lib.hid (HP.out.below hb s1); have HS := Lib.hid (HS.out.below hb s2); have HQ := Lib.hid (HQ.out.below hb); have HB := Lib.hid (HB.out.trans (hb.mono HB.out.size)); have s1 := Nat.lt_of_lt_of_le s1 hb.size; have s2 := Nat.lt_of_lt_of_le s2 hb.size; clear hb
  clear HP HS HQ s1 s2
  go_wp2_with fail
  go_loopw [20] (fun i wr => ∃ k : Nat, k ≤ 8 ∧ i = .int .i64 k ∧ Below w.heap.size w wr) (fun i _ => 8 - (intOf i).toNat)
  case atStart => exact ⟨0, by omega, rfl, HB.out⟩
  case round =>
    obtain ⟨k, hk, rfl, hb⟩ := hrel
    have HB := Lib.hid hb
    clear hb
    have hcs : k = 0 ∨ k = 1 ∨ k = 2 ∨ k = 3 ∨ k = 4 ∨ k = 5 ∨ k = 6 ∨ k = 7 ∨ k = 8 := by omega
    rcases hcs with rfl | rfl | rfl | rfl | rfl | rfl | rfl | rfl | rfl
    · go_wp2_with fail
      refine (doubling_any wr).mono ?_
      rintro e w12 ⟨A2, rfl, _, hb⟩
      have HB := Lib.hid (HB.out.trans (hb.mono HB.out.size))
      clear hb
      go_wp2_with fail
      refine (check_any _ _ _ _ _ _ _ _ _ _ (by omega)).mono ?_
      rintro e w13 ⟨rfl, hb⟩
      rw [err_no (by unfold May; omega)]
      have HB := Lib.hid ((HB.out.alloc HB.out.size _).trans (hb.mono (Nat.le_trans HB.out.size (by simp))))
      clear hb
      go_wp2_with fail
      go_roundw
      case rel => exact ⟨1, by omega, by go_num, HB.out⟩
      case measure => simp [intOf]
    · go_wp2_with fail
      refine (doubling_any wr).mono ?_
      rintro e w12 ⟨A2, rfl, _, hb⟩
      have HB := Lib.hid (HB.out.trans (hb.mono HB.out.size))
      clear hb
      go_wp2_with fail
      refine (check_any _ _ _ _ _ _ _ _ _ _ (by omega)).mono ?_
      rintro e w13 ⟨rfl, hb⟩
      rw [err_no (by unfold May; omega)]
      have HB := Lib.hid ((HB.out.alloc HB.out.size _).trans (hb.mono (Nat.le_trans HB.out.size (by simp))))
      clear hb
      go_wp2_with fail
      go_roundw
      case rel => exact ⟨2, by omega, by go_num, HB.out⟩
      case measure => simp [intOf]
    · go_wp2_with fail
      refine (doubling_any wr).mono ?_
      rintro e w12 ⟨A2, rfl, _, hb⟩
      have HB := Lib.hid (HB.out.trans (hb.mono HB.out.size))
      clear hb
      go_wp2_with fail
      refine (check_any _ _ _ _ _ _ _ _ _ _ (by omega)).mono ?_
      rintro e w13 ⟨rfl, hb⟩
      rw [err_no (by unfold May; omega)]
      have HB := Lib.hid ((HB.out.alloc HB.out.size _).trans (hb.mono (Nat.le_trans HB.out.size (by simp))))
      clear hb
      go_wp2_with fail
      go_roundw
      case rel => exact ⟨3, by omega, by go_num, HB.out⟩
      case measure => simp [intOf]
    · go_wp2_with fail
      refine (doubling_any wr).mono ?_
      rintro e w12 ⟨A2, rfl, _, hb⟩
      have HB := Lib.hid (HB.out.trans (hb.mono HB.out.size))
      clear hb
      go_wp2_with fail
      refine (check_any _ _ _ _ _ _ _ _ _ _ (by omega)).mono ?_
      rintro e w13 ⟨rfl, hb⟩
      rw [err_no (by unfold May; omega)]
      have HB := Lib.hid ((HB.out.alloc HB.out.size _).trans (hb.mono (Nat.le_trans HB.out.size (by simp))))
      clear hb
      go_wp2_with fail
      go_roundw
      case rel => exact ⟨4, by omega, by go_num, HB.out⟩
      case measure => simp [intOf]
    · go_wp2_with fail
      refine (doubling_any wr).mono ?_
      rintro e w12 ⟨A2, rfl, _, hb⟩
      have HB := Lib.hid (HB.out.trans (hb.mono HB.out.size))
      clear hb
      go_wp2_with fail
      refine (check_any _ _ _ _ _ _ _ _ _ _ (by omega)).mono ?_
      rintro e w13 ⟨rfl, hb⟩
      rw [err_no (by unfold May; omega)]
      have HB := Lib.hid ((HB.out.alloc HB.out.size _).trans (hb.mono (Nat.le_trans HB.out.size (by simp))))
      clear hb
      go_wp2_with fail
      go_roundw
      case rel => exact ⟨5, by omega, by go_num, HB.out⟩
      case measure => simp [intOf]
    · go_wp2_with fail
      refine (doubling_any wr).mono ?_
      rintro e w12 ⟨A2, rfl, _, hb⟩
      have HB := Lib.hid (HB.out.trans (hb.mono HB.out.size))
      clear hb
      go_wp2_with fail
      refine (check_any _ _ _ _ _ _ _ _ _ _ (by omega)).mono ?_
      rintro e w13 ⟨rfl, hb⟩
      rw [err_no (by unfold May; omega)]
      have HB := Lib.hid ((HB.out.alloc HB.out.size _).trans (hb.mono (Nat.le_trans HB.out.size (by simp))))
      clear hb
      go_wp2_with fail
      go_roundw
      case rel => exact ⟨6, by omega, by go_num, HB.out⟩
      case measure => simp [intOf]
    · go_wp2_with fail
      refine (doubling_any wr).mono ?_
      rintro e w12 ⟨A2, rfl, _, hb⟩
      have HB := Lib.hid (HB.out.trans (hb.mono HB.out.size))
      clear hb
      go_wp2_with fail
      refine (check_any _ _ _ _ _ _ _ _ _ _ (by omega)).mono ?_
      rintro e w13 ⟨rfl, hb⟩
      rw [err_no (by unfold May; omega)]
      have HB := Lib.hid ((HB.out.alloc HB.out.size _).trans (hb.mono (Nat.le_trans HB.out.size (by simp))))
      clear hb
      go_wp2_with fail
      go_roundw
      case rel => exact ⟨7, by omega, by go_num, HB.out⟩
      case measure => simp [intOf]
    · go_wp2_with fail
      refine (doubling_any wr).mono ?_
      rintro e w12 ⟨A2, rfl, _, hb⟩
      have HB := Lib.hid (HB.out.trans (hb.mono HB.out.size))
      clear hb
      have M7 := M101.out
      go_wp2_with fail
      refine (check_any _ _ _ _ _ _ _ _ _ _ (by omega)).mono ?_
      rintro e w13 ⟨rfl, hb⟩
      rw [err_no (by unfold May; omega)]
      have HB := Lib.hid (((HB.out.alloc HB.out.size _).alloc (Nat.le_trans HB.out.size (by simp)) _).trans (hb.mono (Nat.le_trans HB.out.size (by simp; omega))))
      clear hb
      go_wp2_with fail
      go_roundw
      case rel => exact ⟨8, by omega, by go_num, HB.out⟩
      case measure => simp [intOf]
    · go_wp2_with fail
      refine (awake_any wr).mono ?_
      rintro e w14 ⟨rfl, hb⟩
      have HB := Lib.hid (HB.out.trans (hb.mono HB.out.size))
      clear hb
      go_wp2_with fail
      go_ret
      exact ⟨rfl, HB.out⟩
end Go.Proofs.Yticcicdbncmfbaa
