/- A wait that a draw makes shorter. -/
import Derived.Test.YticcicdbncmfbaaPol
import Derived.Test.YticcicdbncmfbaaMul
namespace Go.Proofs.Yticcicdbncmfbaa
open Go.RowKit

theorem orP (hi lo : Nat) (h1 : hi < 2147483648) (hlo : lo < 18446744073709551616) : bits .or .u64 ((hi : Int) * 4294967296) ((lo : Int) / 4294967296) = ((hi * 4294967296 + lo / 4294967296 : Nat) : Int) := by
  have h := bits_or_u64_nat (hi * 4294967296) (lo / 4294967296) (by omega) (by omega)
  have e : 2 ^ 32 * hi + lo / 4294967296 = 2 ^ 32 * hi ||| lo / 4294967296 := Nat.two_pow_add_eq_or_of_lt (by omega) hi
  rw [show hi * 4294967296 = 2 ^ 32 * hi by omega, ← e] at h
  rw [show (hi : Int) * 4294967296 = ((2 ^ 32 * hi : Nat) : Int) by omega, show (lo : Int) / 4294967296 = ((lo / 4294967296 : Nat) : Int) by omega, h]
  omega

theorem part_any (a d : Nat) (ha : a < 9223372036854775808) (hd : d < 4294967296) (w : World) :
    Calls Try.prog 29 #[.int .i64 a, .int .u32 d] w fun e w' => e = .returned (.int .i64 ((a * d / 4294967296 : Nat) : Int)) ∧ w = w' := by
  have hp : a * d < 9223372036854775808 * 4294967296 := Nat.mul_lt_mul'' ha hd
  obtain ⟨p, hpe⟩ : ∃ p, p = a * d := ⟨_, rfl⟩
  rw [← hpe] at hp
  obtain ⟨x, hx⟩ : ∃ x, x = p / 18446744073709551616 := ⟨_, rfl⟩
  obtain ⟨y, hy⟩ : ∃ y, y = p % 18446744073709551616 := ⟨_, rfl⟩
  have hx1 : x < 2147483648 := by omega
  obtain ⟨r, hr⟩ : ∃ r, r = x * 4294967296 + y / 4294967296 := ⟨_, rfl⟩
  have hr1 : r < 9223372036854775808 := by omega
  have e1 : bits .or .u64 ((x : Int) * 4294967296) ((y : Int) / 4294967296) = (r : Int) := by rw [orP x y hx1 (by omega), hr]
  have HE := Lib.hid (show r = a * d / 4294967296 by omega)
  have HX := Lib.hid hx
  have HY := Lib.hid hy
  have HP := Lib.hid hpe
  clear hp hx hy hr hpe
  go_enter Try.func29, Try.ntmps29
  go_wp2_with fail
  refine (mul_any a d (by omega) (by omega) w).mono ?_
  rintro e w' ⟨rfl, rfl⟩
  rw [← HP.out, ← HX.out, ← HY.out]
  go_wp2_with fail
  go_ret
  rw [← HE.out]
  exact ⟨rfl, rfl⟩

def drawnV (S wait : Int) (draw : Nat) : Int := wait - ((wait.toNat * S.toNat / 100 * draw / 4294967296 : Nat) : Int)

theorem drawn_ok (F C N D M : Int) (sn : Nat) (A : Option Addr) (L K wn draw : Nat) (w : World) (hM : May F C N D M sn L) (hw : wn < 9223372036854775808) (hd : draw < 4294967296) :
    Calls Try.prog 17 #[.agg #[.int .i64 F, .int .i64 C, .int .i64 N, .int .i64 D, .int .i64 M, .int .i64 (sn : Nat), .slice A L K], .int .i64 wn, .int .u32 draw] w fun e w' => e = .returned (.tuple #[.int .i64 (drawnV sn wn draw), .int .i64 0]) ∧ Below w.heap.size w w' := by
  have hs : sn ≤ 100 := by obtain ⟨_, _, _, _, _, _, _, _, h, _⟩ := hM; omega
  have hL : L ≤ 100 := by obtain ⟨_, _, _, _, _, _, _, _, _, h⟩ := hM; omega
  have hp : wn * sn ≤ wn * 100 := Nat.mul_le_mul_left _ hs
  obtain ⟨p, hpe⟩ : ∃ p, p = wn * sn := ⟨_, rfl⟩
  rw [← hpe] at hp
  obtain ⟨x, hx⟩ : ∃ x, x = p / 18446744073709551616 := ⟨_, rfl⟩
  obtain ⟨y, hy⟩ : ∃ y, y = p % 18446744073709551616 := ⟨_, rfl⟩
  obtain ⟨m, hm⟩ : ∃ m, m = p / 100 := ⟨_, rfl⟩
  have hm1 : m < 9223372036854775808 := by omega
  have hc : m * draw / 4294967296 ≤ m := Nat.div_le_of_le_mul (by rw [Nat.mul_comm 4294967296]; exact Nat.mul_le_mul_left _ (by omega))
  obtain ⟨c, hce⟩ : ∃ c, c = m * draw / 4294967296 := ⟨_, rfl⟩
  rw [← hce] at hc
  have hcw : c ≤ wn := by omega
  have HX := Lib.hid (And.intro (show x < 100 by omega) (show y < 18446744073709551616 by omega))
  have HQ := Lib.hid (show (x * 18446744073709551616 + y) / 100 = m by omega)
  have HE := Lib.hid (show drawnV sn wn draw = (wn : Int) - (c : Int) by unfold drawnV; simp only [Int.toNat_natCast]; rw [← hpe, ← hm, ← hce])
  have HM := Lib.hid hM
  have HA := Lib.hid hx
  have HY := Lib.hid hy
  have HP := Lib.hid hpe
  have HC := Lib.hid hce
  clear hp hx hy hpe hm hM hce hc
  go_enter Try.func17, Try.ntmps17
  go_wp2_with fail
  refine (check_any F C N D M sn A L K _ (by omega)).mono ?_
  rintro e w1 ⟨rfl, hb1⟩
  rw [err_yes HM.out]
  have HB1 := Lib.hid (show Below w.heap.size w w1 from ((Below.refl _ _).alloc (Nat.le_refl _) _).trans (hb1.mono (by simp)))
  have hc1 := (bcell hb1).1
  clear hb1
  go_wp2_with fail
  refine (mul_any wn sn (by omega) (by omega) w1).mono ?_
  rintro e w' ⟨rfl, rfl⟩
  rw [← HP.out, ← HA.out, ← HY.out]
  go_wp2_with fail
  refine (div_any x y HX.out.1 HX.out.2 w1).mono ?_
  rintro e w2 ⟨r, rfl, hb2⟩
  rw [HQ.out]
  have HB2 := Lib.hid (HB1.out.trans (hb2.mono HB1.out.size))
  clear hb2
  go_wp2_with fail
  refine (part_any m draw hm1 hd w2).mono ?_
  rintro e w' ⟨rfl, rfl⟩
  rw [← HC.out]
  go_wp2_with fail
  go_ret2
  rw [HE.out]
  exact ⟨rfl, HB2.out⟩
end Go.Proofs.Yticcicdbncmfbaa
