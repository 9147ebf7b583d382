/- The walk of prompterlaw20.RetryRises: it returns true. -/
import Derived.Test.YticcicdbncmfbaaDw
namespace Go.Proofs.Yticcicdbncmfbaa
open Go.RowKit

theorem wseq_rises {c n d f : Nat} (hd : 1 ≤ d) (hdn : d ≤ n) (hf : f ≤ c) (k : Nat) : wseq c n d f k ≤ wseq c n d f (k + 1) := next_ge hd hdn (wseq_le hf k)
theorem wseq_ge {c n d f : Nat} (hd : 1 ≤ d) (hdn : d ≤ n) (hf : f ≤ c) : ∀ k, f ≤ wseq c n d f k
  | 0 => Nat.le_refl _
  | k + 1 => Nat.le_trans (wseq_ge hd hdn hf k) (wseq_rises hd hdn hf k)
def cutN (sn v draw : Nat) : Nat := v * sn / 100 * draw / 4294967296
theorem drawnV_cut (sn v draw : Nat) : drawnV sn v draw = (v : Int) - (cutN sn v draw : Nat) := by unfold drawnV cutN; simp only [Int.toNat_natCast]
theorem cutN_le (sn v draw : Nat) (hd : draw < 4294967296) : cutN sn v draw ≤ v * sn / 100 :=
  Nat.div_le_of_le_mul (by rw [Nat.mul_comm 4294967296]; exact Nat.mul_le_mul_left _ (by omega))
theorem cutN_mono (sn v x y : Nat) (h : x ≤ y) : cutN sn v x ≤ cutN sn v y := Nat.div_le_div_right (Nat.mul_le_mul_left _ h)
theorem cutN_zero (sn v : Nat) : cutN sn v 0 = 0 := by unfold cutN; simp

set_option maxHeartbeats 1000000 in
set_option maxRecDepth 100000 in
theorem rises_ok (f c n d : Nat) (M : Int) (sn : Nat) (A : Option Addr) (L K : Nat) (l : List Int) (at_ x y : Nat) (w : World) (hrow : InRow w A L K l) (hM : May f c n d M sn L) (hc : c < 9223372036854775808) (ha : 1 ≤ at_) (ha2 : at_ < 9223372036854775808) (hx : x < 4294967296) (hy : y < 4294967296) :
    Calls Try.prog 5 #[.agg #[.int .i64 (f : Nat), .int .i64 (c : Nat), .int .i64 (n : Nat), .int .i64 (d : Nat), .int .i64 M, .int .i64 (sn : Nat), .slice A L K], .int .i64 at_, .int .u32 x, .int .u32 y] w fun e w' => e = .returned (.bool true) ∧ Below w.heap.size w w' := by
  have hd : 1 ≤ d := by obtain ⟨_, _, h, _⟩ := hM; omega
  have hdn : d ≤ n := by obtain ⟨_, _, _, h, _⟩ := hM; omega
  have hf : f ≤ c := by obtain ⟨_, h, _⟩ := hM; omega
  have hs : sn ≤ 100 := by obtain ⟨_, _, _, _, _, _, _, _, h, _⟩ := hM; omega
  have HM := Lib.hid hM
  have HR := Lib.hid hrow
  clear hM hrow
  obtain ⟨v, hv⟩ : ∃ v, v = wseq c n d f (at_ - 1) := ⟨_, rfl⟩
  have hv1 : f ≤ v := by rw [hv]; exact wseq_ge hd hdn hf _
  have hv2 : v ≤ c := by rw [hv]; exact wseq_le hf _
  have hvw : v < 9223372036854775808 := by omega
  obtain ⟨u, hu⟩ : ∃ u, u = wseq c n d f (at_ - 1 - 1) := ⟨_, rfl⟩
  have hu1 : 1 < at_ → u ≤ v := fun h => by
    rw [hu, hv]
    have := wseq_rises (f := f) hd hdn hf (at_ - 1 - 1)
    rwa [show at_ - 1 - 1 + 1 = at_ - 1 by omega] at this
  have HV := Lib.hid hv
  have HU := Lib.hid hu
  obtain ⟨m1, hm1⟩ : ∃ m, m = v / 100 * sn := ⟨_, rfl⟩
  obtain ⟨m2, hm2⟩ : ∃ m, m = v % 100 * sn := ⟨_, rfl⟩
  have hm2b : m2 ≤ 99 * 100 := by rw [hm2]; exact Nat.mul_le_mul (by omega) hs
  obtain ⟨m, hm⟩ : ∃ m, m = m1 + m2 / 100 := ⟨_, rfl⟩
  have hmq : m = v * sn / 100 := by rw [hm, hm1, hm2, mix_eq]
  have hmw : m ≤ v := by rw [hmq]; exact Nat.div_le_of_le_mul (by rw [Nat.mul_comm 100]; exact Nat.mul_le_mul_left _ hs)
  have e1 : (v : Int) / 100 * (sn : Int) = (m1 : Int) := by rw [hm1]; simp
  have e2 : (v : Int) % 100 * (sn : Int) = (m2 : Int) := by rw [hm2]; simp
  have e3 : (m1 : Int) + (m2 : Int) / 100 = (m : Int) := by omega
  have b1 : m1 ≤ m := by omega
  obtain ⟨ca, hca⟩ : ∃ q, q = cutN sn v x := ⟨_, rfl⟩
  obtain ⟨cb, hcb⟩ : ∃ q, q = cutN sn v y := ⟨_, rfl⟩
  have ha1 : ca ≤ m := by rw [hca, hmq]; exact cutN_le _ _ _ hx
  have hb1 : cb ≤ m := by rw [hcb, hmq]; exact cutN_le _ _ _ hy
  have hab : x ≤ y → ca ≤ cb := fun h => by rw [hca, hcb]; exact cutN_mono _ _ _ _ h
  have HDA := Lib.hid (show drawnV sn v x = (v : Int) - (ca : Nat) by rw [drawnV_cut, hca])
  have HDB := Lib.hid (show drawnV sn v y = (v : Int) - (cb : Nat) by rw [drawnV_cut, hcb])
  have HDZ := Lib.hid (show drawnV sn v 0 = (v : Int) by rw [drawnV_cut, cutN_zero]; simp)
  clear hv hu hm hm1 hm2 hmq hca hcb
  go_enter Try.func5, Try.ntmps5
  go_wp2_with fail
  refine (awake_any _).mono ?_
  rintro e w1 ⟨rfl, hb1⟩
  have hP := (Blk.new w 24 #[.int .i64 (f : Nat), .int .i64 (c : Nat), .int .i64 (n : Nat), .int .i64 (d : Nat), .int .i64 M, .int .i64 (sn : Nat), .slice A L K]).below hb1 (by simp)
  have hB := ((Below.refl w.heap.size w).alloc (Nat.le_refl _) (.cells #[.int .i64 (f : Nat), .int .i64 (c : Nat), .int .i64 (n : Nat), .int .i64 (d : Nat), .int .i64 M, .int .i64 (sn : Nat), .slice A L K] 24)).trans (hb1.mono (by simp))
  have hs : w.heap.size < w1.heap.size := by have := hb1.size; simp at this; omega
  have hrw : InRow w1 A L K l := (HR.out.alloc _).below hb1
  clear hb1
  go_wp2_with (refine wpList_load_row rfl 24 _ rfl w.heap.size rfl 24 _ (0, 0) _ hP Try.underlying24 rfl (by kernel_rfl) ?_)
  refine (policy_any f c n d M sn A L K l w1 hrw).mono ?_
  rintro e w2 ⟨A', K', rfl, _, hb2⟩
  have HPz := Lib.hid ((hP.below hb2 hs).alloc (.cells #[.int .i64 (f : Nat), .int .i64 (c : Nat), .int .i64 (n : Nat), .int .i64 (d : Nat), .int .i64 M, .int .i64 (sn : Nat), .slice A' L K'] 24))
  have HBz := Lib.hid ((hB.trans (hb2.mono hB.size)).alloc (Nat.le_trans hB.size hb2.size) (.cells #[.int .i64 (f : Nat), .int .i64 (c : Nat), .int .i64 (n : Nat), .int .i64 (d : Nat), .int .i64 M, .int .i64 (sn : Nat), .slice A' L K'] 24))
  have hs2 : w.heap.size < w2.heap.size := Nat.lt_of_lt_of_le hs hb2.size
  clear hb2 hP hB hs hrw
  obtain ⟨b9, hb9⟩ : ∃ b, b = w2.heap.size := ⟨_, rfl⟩
  have HXz := Lib.hid (Blk.new w2 24 #[.int .i64 (f : Nat), .int .i64 (c : Nat), .int .i64 (n : Nat), .int .i64 (d : Nat), .int .i64 M, .int .i64 (sn : Nat), .slice A' L K'])
  have hsz : (w2.alloc (.cells #[.int .i64 (f : Nat), .int .i64 (c : Nat), .int .i64 (n : Nat), .int .i64 (d : Nat), .int .i64 M, .int .i64 (sn : Nat), .slice A' L K'] 24)).heap.size = b9 + 1 := by simp [hb9]
  rw [← hb9] at HXz hs2
  go_wp2_with fail
  rw [← hb9]
  obtain ⟨w3, hw3⟩ : ∃ w3, w3 = w2.alloc (.cells #[.int .i64 (f : Nat), .int .i64 (c : Nat), .int .i64 (n : Nat), .int .i64 (d : Nat), .int .i64 M, .int .i64 (sn : Nat), .slice A' L K'] 24) := ⟨_, rfl⟩
  rw [← hw3] at HPz HBz HXz hsz ⊢
  have HX3 := Lib.hid HXz.out
  have HP3 := Lib.hid HPz.out
  have HB3 := Lib.hid HBz.out
  have s9_3 : b9 < w3.heap.size := by omega
  have s0_3 : w.heap.size < w3.heap.size := by omega
  clear hw3 hb9 HPz HBz HXz hsz hs2
  go_wp2_with (refine wpList_load_row rfl 24 _ rfl b9 rfl 24 _ (0, 0) _ HX3.out Try.underlying24 rfl (by kernel_rfl) ?_)
  refine (wait_ok f c n d M sn A' L K' at_ w3 HM.out hc ha ha2).mono ?_
  rintro e w4 ⟨rfl, hb4⟩
  have HX4 := Lib.hid (HX3.out.below hb4 s9_3)
  have HP4 := Lib.hid (HP3.out.below hb4 s0_3)
  have HB4 := Lib.hid (HB3.out.trans (hb4.mono HB3.out.size))
  have s9_4 : b9 < w4.heap.size := Nat.lt_of_lt_of_le s9_3 hb4.size
  have s0_4 : w.heap.size < w4.heap.size := Nat.lt_of_lt_of_le s0_3 hb4.size
  clear hb4 HX3 HP3 HB3 s9_3 s0_3
  rw [← HV.out]
  go_wp2_with (refine wpList_load_row rfl 24 _ rfl b9 rfl 24 _ (0, 0) _ HX4.out Try.underlying24 rfl (by kernel_rfl) ?_)
  refine (wait_ok f c n d M sn A' L K' 1 w4 HM.out hc (by omega) (by omega)).mono ?_
  rintro e w5 ⟨rfl, hb5⟩
  have HX5 := Lib.hid (HX4.out.below hb5 s9_4)
  have HP5 := Lib.hid (HP4.out.below hb5 s0_4)
  have HB5 := Lib.hid (HB4.out.trans (hb5.mono HB4.out.size))
  have s9_5 : b9 < w5.heap.size := Nat.lt_of_lt_of_le s9_4 hb5.size
  have s0_5 : w.heap.size < w5.heap.size := Nat.lt_of_lt_of_le s0_4 hb5.size
  clear hb5 HX4 HP4 HB4 s9_4 s0_4
  rw [show wseq c n d f (1 - 1) = f from rfl]
  have p0 : w5.cell? ⟨w.heap.size, 0, none⟩ = some (.int .i64 f) := HP5.out.cell 0
  have p1 : w5.cell? ⟨w.heap.size, 1, none⟩ = some (.int .i64 c) := HP5.out.cell 1


  by_cases h1 : 1 < at_
  · have hu2 := hu1 h1
    clear hu1
    go_wp2_with (refine wpList_load_row rfl 24 _ rfl b9 rfl 24 _ (0, 0) _ HX5.out Try.underlying24 rfl (by kernel_rfl) ?_)
    rw [show (at_ : Int) - 1 = ((at_ - 1 : Nat) : Int) by omega]
    refine (wait_ok f c n d M sn A' L K' (at_ - 1) w5 HM.out hc (by omega) (by omega)).mono ?_
    rintro e w6 ⟨rfl, hb6⟩
    have HX6 := Lib.hid (HX5.out.below hb6 s9_5)
    have HP6 := Lib.hid (HP5.out.below hb6 s0_5)
    have HB6 := Lib.hid (HB5.out.trans (hb6.mono HB5.out.size))
    have s9_6 : b9 < w6.heap.size := Nat.lt_of_lt_of_le s9_5 hb6.size
    have s0_6 : w.heap.size < w6.heap.size := Nat.lt_of_lt_of_le s0_5 hb6.size
    clear hb6 HX5 HP5 HB5 s9_5 s0_5
    rw [← HU.out]
    clear p0 p1
    go_wp2_with (refine wpList_load_row rfl 24 _ rfl b9 rfl 24 _ (0, 0) _ HX6.out Try.underlying24 rfl (by kernel_rfl) ?_)
    refine (drawn_ok f c n d M sn A' L K' v x w6 HM.out hvw hx).mono ?_
    rintro e w7 ⟨rfl, hb7⟩
    have HX7 := Lib.hid (HX6.out.below hb7 s9_6)
    have HP7 := Lib.hid (HP6.out.below hb7 s0_6)
    have HB7 := Lib.hid (HB6.out.trans (hb7.mono HB6.out.size))
    have s9_7 : b9 < w7.heap.size := Nat.lt_of_lt_of_le s9_6 hb7.size
    have s0_7 : w.heap.size < w7.heap.size := Nat.lt_of_lt_of_le s0_6 hb7.size
    clear hb7 HX6 HP6 HB6 s9_6 s0_6
    rw [HDA.out]
    go_wp2_with (refine wpList_load_row rfl 24 _ rfl b9 rfl 24 _ (0, 0) _ HX7.out Try.underlying24 rfl (by kernel_rfl) ?_)
    refine (drawn_ok f c n d M sn A' L K' v y w7 HM.out hvw hy).mono ?_
    rintro e w8 ⟨rfl, hb8⟩
    have HX8 := Lib.hid (HX7.out.below hb8 s9_7)
    have HP8 := Lib.hid (HP7.out.below hb8 s0_7)
    have HB8 := Lib.hid (HB7.out.trans (hb8.mono HB7.out.size))
    have s9_8 : b9 < w8.heap.size := Nat.lt_of_lt_of_le s9_7 hb8.size
    have s0_8 : w.heap.size < w8.heap.size := Nat.lt_of_lt_of_le s0_7 hb8.size
    clear hb8 HX7 HP7 HB7 s9_7 s0_7
    rw [HDB.out]
    go_wp2_with (refine wpList_load_row rfl 24 _ rfl b9 rfl 24 _ (0, 0) _ HX8.out Try.underlying24 rfl (by kernel_rfl) ?_)
    refine (drawn_ok f c n d M sn A' L K' v 0 w8 HM.out hvw (by omega)).mono ?_
    rintro e w9 ⟨rfl, hb9⟩
    have HX9 := Lib.hid (HX8.out.below hb9 s9_8)
    have HP9 := Lib.hid (HP8.out.below hb9 s0_8)
    have HB9 := Lib.hid (HB8.out.trans (hb9.mono HB8.out.size))
    have s9_9 : b9 < w9.heap.size := Nat.lt_of_lt_of_le s9_8 hb9.size
    have s0_9 : w.heap.size < w9.heap.size := Nat.lt_of_lt_of_le s0_8 hb9.size
    clear hb9 HX8 HP8 HB8 s9_8 s0_8
    rw [HDZ.out]
    have p5 : w9.cell? ⟨w.heap.size, 5, none⟩ = some (.int .i64 sn) := HP9.out.cell 5
    by_cases hxy : y < x
    · clear hab
      go_wp2_with fail
      go_ret
      exact ⟨rfl, HB9.out⟩
    · have hab2 : ca ≤ cb := hab (by omega)
      clear hab
      go_wp2_with fail
      go_ret
      exact ⟨rfl, HB9.out⟩
  · clear hu1
    go_wp2_with (refine wpList_load_row rfl 24 _ rfl b9 rfl 24 _ (0, 0) _ HX5.out Try.underlying24 rfl (by kernel_rfl) ?_)
    refine (drawn_ok f c n d M sn A' L K' v x w5 HM.out hvw hx).mono ?_
    rintro e w6 ⟨rfl, hb6⟩
    have HX6 := Lib.hid (HX5.out.below hb6 s9_5)
    have HP6 := Lib.hid (HP5.out.below hb6 s0_5)
    have HB6 := Lib.hid (HB5.out.trans (hb6.mono HB5.out.size))
    have s9_6 : b9 < w6.heap.size := Nat.lt_of_lt_of_le s9_5 hb6.size
    have s0_6 : w.heap.size < w6.heap.size := Nat.lt_of_lt_of_le s0_5 hb6.size
    clear hb6 HX5 HP5 HB5 s9_5 s0_5
    rw [HDA.out]
    go_wp2_with (refine wpList_load_row rfl 24 _ rfl b9 rfl 24 _ (0, 0) _ HX6.out Try.underlying24 rfl (by kernel_rfl) ?_)
    refine (drawn_ok f c n d M sn A' L K' v y w6 HM.out hvw hy).mono ?_
    rintro e w7 ⟨rfl, hb7⟩
    have HX7 := Lib.hid (HX6.out.below hb7 s9_6)
    have HP7 := Lib.hid (HP6.out.below hb7 s0_6)
    have HB7 := Lib.hid (HB6.out.trans (hb7.mono HB6.out.size))
    have s9_7 : b9 < w7.heap.size := Nat.lt_of_lt_of_le s9_6 hb7.size
    have s0_7 : w.heap.size < w7.heap.size := Nat.lt_of_lt_of_le s0_6 hb7.size
    clear hb7 HX6 HP6 HB6 s9_6 s0_6
    rw [HDB.out]
    go_wp2_with (refine wpList_load_row rfl 24 _ rfl b9 rfl 24 _ (0, 0) _ HX7.out Try.underlying24 rfl (by kernel_rfl) ?_)
    refine (drawn_ok f c n d M sn A' L K' v 0 w7 HM.out hvw (by omega)).mono ?_
    rintro e w8 ⟨rfl, hb8⟩
    have HX8 := Lib.hid (HX7.out.below hb8 s9_7)
    have HP8 := Lib.hid (HP7.out.below hb8 s0_7)
    have HB8 := Lib.hid (HB7.out.trans (hb8.mono HB7.out.size))
    have s9_8 : b9 < w8.heap.size := Nat.lt_of_lt_of_le s9_7 hb8.size
    have s0_8 : w.heap.size < w8.heap.size := Nat.lt_of_lt_of_le s0_7 hb8.size
    clear hb8 HX7 HP7 HB7 s9_7 s0_7
    rw [HDZ.out]
    have p5 : w8.cell? ⟨w.heap.size, 5, none⟩ = some (.int .i64 sn) := HP8.out.cell 5
    by_cases hxy : y < x
    · clear hab
      go_wp2_with fail
      go_ret
      exact ⟨rfl, HB8.out⟩
    · have hab2 : ca ≤ cb := hab (by omega)
      clear hab
      go_wp2_with fail
      go_ret
      exact ⟨rfl, HB8.out⟩
end Go.Proofs.Yticcicdbncmfbaa
