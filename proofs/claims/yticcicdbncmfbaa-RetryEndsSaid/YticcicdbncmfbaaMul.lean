/- math/bits.Mul64 and Div64 by a hundred. -/
import Derived.Test.YticcicdbncmfbaaProg
import Derived.Test.YticcicdbncmfbaaKit
import Derived.Shelf.Bits.Mul64
import Derived.Laws.Bits64b
import Derived.Deep.QuietTactic
import Derived.BigQuiet
namespace Go.Proofs.Yticcicdbncmfbaa
open Go.RowKit Go.Lib

set_option maxHeartbeats 1000000 in
theorem mul_any (x y : Nat) (hx : x < 18446744073709551616) (hy : y < 18446744073709551616) (w : World) :
    Calls Try.prog 27 #[.int .u64 x, .int .u64 y] w fun e w' => e = .returned (.tuple #[.int .u64 ((x * y / 18446744073709551616 : Nat) : Int), .int .u64 ((x * y % 18446744073709551616 : Nat) : Int)]) ∧ w = w' := by
  obtain ⟨bd, bt, bw, hhi⟩ := Lib.mul64_hi x y hx hy
  have ba := Lib.half_mul_le (a := x / 4294967296) (b := y / 4294967296) (by omega) (by omega)
  have bb := Lib.half_mul_le (a := x / 4294967296) (b := y % 4294967296) (by omega) (by omega)
  have bc := Lib.half_mul_le (a := x % 4294967296) (b := y / 4294967296) (by omega) (by omega)
  have ba' : x / 4294967296 * (y / 4294967296) < 18446744073709551616 := by omega
  have bb' : x / 4294967296 * (y % 4294967296) < 18446744073709551616 := by omega
  have bc' : x % 4294967296 * (y / 4294967296) < 18446744073709551616 := by omega
  have bh1 : x / 4294967296 * (y / 4294967296) + (x / 4294967296 * (y % 4294967296) + x % 4294967296 * (y % 4294967296) / 4294967296) / 4294967296 < 18446744073709551616 := by omega
  have bh : x / 4294967296 * (y / 4294967296) + (x / 4294967296 * (y % 4294967296) + x % 4294967296 * (y % 4294967296) / 4294967296) / 4294967296 + ((x / 4294967296 * (y % 4294967296) + x % 4294967296 * (y % 4294967296) / 4294967296) % 4294967296 + x % 4294967296 * (y / 4294967296)) / 4294967296 < 18446744073709551616 := by omega
  go_enter Try.func27, Try.ntmps27
  go_wp2_with fail
  simp only [Mul64.maskN x hx, Mul64.maskN y hy, Mul64.divN, Mul64.mulN, Mul64.addN, Mul64.wrapN _ bd, Mul64.wrapN _ bb', Mul64.wrapN _ bt, Mul64.maskN _ bt, Mul64.wrapN _ bc', Mul64.wrapN _ bw, Mul64.wrapN _ ba', Mul64.wrapN _ bh1, Mul64.wrapN _ bh, Mul64.wrapM (x * y)]
  rw [hhi]
  go_ret2
  exact ⟨rfl, rfl⟩

set_option maxRecDepth 100000 in
theorem lz_100 (w : World) : Calls Try.prog 36 #[.int .u64 100] w fun e w' => e = .returned (.int .i64 57) ∧ w = w' := by
  go_enter Try.func36, Try.ntmps36
  go_wp2_with fail
  refine Calls.mono (R := fun e w' => e = .returned (.int .i64 7) ∧ w = w') ?_ ?_
  · go_enter Try.func38, Try.ntmps38
    go_wp2_with fail
    go_ret
    exact ⟨ret_int (by kernel_rfl), rfl⟩
  rintro e w' ⟨rfl, rfl⟩
  go_wp2_with fail
  go_ret
  exact ⟨rfl, rfl⟩

theorem div_zero (lo : Nat) (hlo : lo < 18446744073709551616) (w : World) :
    Calls Try.prog 28 #[.int .u64 0, .int .u64 lo, .int .u64 100] w fun e w' => e = .returned (.tuple #[.int .u64 ((lo / 100 : Nat) : Int), .int .u64 ((lo % 100 : Nat) : Int)]) ∧ Below w.heap.size w w' := by
  go_enter Try.func28, Try.ntmps28
  go_wp2_with fail
  go_quiet (fail)
  go_wp2_with fail
  go_ret2
  exact ⟨rfl, below_drewN (Below.refl _ _) _⟩

theorem orU (hi lo : Nat) (h1 : hi < 100) (hlo : lo < 18446744073709551616) : bits .or .u64 ((hi : Int) * 144115188075855872) ((lo : Int) / 128) = ((hi * 144115188075855872 + lo / 128 : Nat) : Int) := by
  have h := bits_or_u64_nat (hi * 144115188075855872) (lo / 128) (by omega) (by omega)
  have e : 2 ^ 57 * hi + lo / 128 = 2 ^ 57 * hi ||| lo / 128 := Nat.two_pow_add_eq_or_of_lt (by omega) hi
  rw [show hi * 144115188075855872 = 2 ^ 57 * hi by omega, ← e] at h
  rw [show (hi : Int) * 144115188075855872 = ((2 ^ 57 * hi : Nat) : Int) by omega, show (lo : Int) / 128 = ((lo / 128 : Nat) : Int) by omega, h]
  omega
theorem andV (m : Nat) (h : m < 128) : bits .and .u64 ((m * 144115188075855872 : Nat) : Int) 4294967295 = 0 := by
  rw [Mul64.maskN _ (by omega)]; omega
theorem andY : bits .and .u64 14411518807585587200 4294967295 = 0 := by decide +kernel

theorem fold64 (U q r v W : Nat) (h : U = 3355443200 * q + r) (hW : W = r * 4294967296 + v) (hl : W < 18446744073709551616) :
    IntKind.u64.wrap (IntKind.u64.wrap (IntKind.u64.wrap ((U : Int) * 4294967296) + (v : Int)) - IntKind.u64.wrap ((q : Int) * 14411518807585587200)) = (W : Int) := by
  simp only [IntKind.wrap_u64]
  rw [Int.emod_add_emod, Int.emod_sub_emod, Int.sub_emod_emod, show (U : Int) * 4294967296 + (v : Int) - (q : Int) * 14411518807585587200 = (W : Int) by omega]
  omega

theorem quo_eq (hi lo U q1 r1 V W2 q2 r2 m : Nat) (hU : U = hi * 144115188075855872 + lo / 128) (hUq : U = 3355443200 * q1 + r1) (hm : m = lo % 128) (hV : V = m * 144115188075855872)
    (hW : W2 = r1 * 4294967296 + V / 4294967296) (hWq : W2 = 3355443200 * q2 + r2) (hr : r2 < 3355443200) : (hi * 18446744073709551616 + lo) / 100 = q1 * 4294967296 + q2 := by
  have e1 : V / 4294967296 = m * 33554432 := by omega
  have e2 : U * 4294967296 + m * 33554432 = 33554432 * (hi * 18446744073709551616 + lo) := by omega
  have e3 : U * 4294967296 + m * 33554432 = 3355443200 * (q1 * 4294967296 + q2) + r2 := by omega
  omega

set_option maxHeartbeats 1000000 in
set_option maxRecDepth 100000 in
theorem div_pos (hi lo : Nat) (h0 : 0 < hi) (h1 : hi < 100) (hlo : lo < 18446744073709551616) (w : World) :
    Calls Try.prog 28 #[.int .u64 hi, .int .u64 lo, .int .u64 100] w fun e w' => ∃ r, e = .returned (.tuple #[.int .u64 (((hi * 18446744073709551616 + lo) / 100 : Nat) : Int), .int .u64 r]) ∧ Below w.heap.size w w' := by
  obtain ⟨U, hU⟩ : ∃ U, U = hi * 144115188075855872 + lo / 128 := ⟨_, rfl⟩
  have e1 : bits .or .u64 ((hi : Int) * 144115188075855872) ((lo : Int) / 128) = (U : Int) := by rw [orU hi lo h1 hlo, hU]
  obtain ⟨q1, hq1⟩ : ∃ q, q = U / 3355443200 := ⟨_, rfl⟩
  obtain ⟨r1, hr1⟩ : ∃ q, q = U % 3355443200 := ⟨_, rfl⟩
  have e2 : IntKind.u64.wrap ((U : Int).tdiv 3355443200) = (q1 : Int) := by
    rw [show ((U : Int).tdiv 3355443200) = ((U / 3355443200 : Nat) : Int) from (Int.ofNat_tdiv U 3355443200).symm, Mul64.wrapN _ (by omega), hq1]
  have e3 : IntKind.u64.wrap ((U : Int) - IntKind.u64.wrap ((q1 : Int) * 3355443200)) = (r1 : Int) := by
    rw [show (q1 : Int) * 3355443200 = ((q1 * 3355443200 : Nat) : Int) by omega, Mul64.wrapN _ (by omega), show (U : Int) - ((q1 * 3355443200 : Nat) : Int) = (r1 : Int) by omega, Mul64.wrapN _ (by omega)]
  obtain ⟨m, hm⟩ : ∃ m, m = lo % 128 := ⟨_, rfl⟩
  obtain ⟨V, hV⟩ : ∃ V, V = m * 144115188075855872 := ⟨_, rfl⟩
  have e5 : IntKind.u64.wrap ((lo : Int) * 144115188075855872) = (V : Int) := by rw [IntKind.wrap_u64]; omega
  have e7 : bits .and .u64 (V : Int) 4294967295 = 0 := by rw [hV]; exact andV m (by omega)
  have b1 : q1 < 4294967296 := by omega
  have b2 : r1 < 3355443200 := by omega
  have b3 : V / 4294967296 < 4294967296 := by omega
  obtain ⟨W2, hW2⟩ : ∃ W2, W2 = r1 * 4294967296 + V / 4294967296 := ⟨_, rfl⟩
  obtain ⟨q2, hq2⟩ : ∃ q, q = W2 / 3355443200 := ⟨_, rfl⟩
  obtain ⟨r2, hr2⟩ : ∃ q, q = W2 % 3355443200 := ⟨_, rfl⟩
  have f1 : IntKind.u64.wrap (IntKind.u64.wrap (IntKind.u64.wrap ((U : Int) * 4294967296) + (V : Int) / 4294967296) - IntKind.u64.wrap ((q1 : Int) * 14411518807585587200)) = (W2 : Int) := by
    rw [show (V : Int) / 4294967296 = ((V / 4294967296 : Nat) : Int) by omega]
    exact fold64 U q1 r1 (V / 4294967296) W2 (by omega) hW2 (by omega)
  have f2 : IntKind.u64.wrap ((W2 : Int).tdiv 3355443200) = (q2 : Int) := by
    rw [show ((W2 : Int).tdiv 3355443200) = ((W2 / 3355443200 : Nat) : Int) from (Int.ofNat_tdiv W2 3355443200).symm, Mul64.wrapN _ (by omega), hq2]
  have f3 : IntKind.u64.wrap ((W2 : Int) - IntKind.u64.wrap ((q2 : Int) * 3355443200)) = (r2 : Int) := by
    rw [show (q2 : Int) * 3355443200 = ((q2 * 3355443200 : Nat) : Int) by omega, Mul64.wrapN _ (by omega), show (W2 : Int) - ((q2 * 3355443200 : Nat) : Int) = (r2 : Int) by omega, Mul64.wrapN _ (by omega)]
  have b4 : q2 < 4294967296 := by omega
  have HG := Lib.hid (And.intro f1 (And.intro f2 f3))
  have HW := Lib.hid (And.intro hW2 (And.intro hq2 hr2))
  clear f1 f2 f3 hW2 hq2 hr2
  have HF := Lib.hid (And.intro hU (And.intro hq1 (And.intro hr1 (And.intro hm hV))))
  clear hU hq1 hr1 hm hV
  have HE := Lib.hid (And.intro e1 (And.intro e2 (And.intro e3 (And.intro e5 e7))))
  clear e1 e2 e3 e5 e7
  go_enter Try.func28, Try.ntmps28
  go_wp2_with fail
  refine (lz_100 w).mono ?_
  rintro e w' ⟨rfl, rfl⟩
  go_wp2_with fail
  simp only [andY, HE.out.1, HE.out.2.1, HE.out.2.2.1, HE.out.2.2.2.1, HE.out.2.2.2.2]
  have t1 : decide ((4294967296 : Int) ≤ (q1 : Int)) = false := decide_eq_false (by omega)
  refine wp_loop_rounds 1 ?_
  rw [rounds_succ]
  go_wp2_with fail
  simp only [HG.out.1, HG.out.2.1, HG.out.2.2]
  have t2 : decide ((4294967296 : Int) ≤ (q2 : Int)) = false := decide_eq_false (by omega)
  refine wp_loop_rounds 1 ?_
  rw [rounds_succ]
  go_wp2_with fail
  obtain ⟨hW2, hq2, hr2⟩ := HW.out
  obtain ⟨hU, hq1, hr1, hm, hV⟩ := HF.out
  have hQ : (q1 : Int) * 4294967296 + (q2 : Int) = (((hi * 18446744073709551616 + lo) / 100 : Nat) : Int) := by
    have := quo_eq hi lo U q1 r1 V W2 q2 r2 m hU (by omega) hm hV hW2 (by omega) (by omega)
    omega
  go_ret2
  exact ⟨_, congrArg (fun q => Ending.returned (.tuple #[.int .u64 q, _])) hQ, Below.refl _ _⟩

theorem div_any (hi lo : Nat) (h1 : hi < 100) (hlo : lo < 18446744073709551616) (w : World) :
    Calls Try.prog 28 #[.int .u64 hi, .int .u64 lo, .int .u64 100] w fun e w' => ∃ r, e = .returned (.tuple #[.int .u64 (((hi * 18446744073709551616 + lo) / 100 : Nat) : Int), .int .u64 r]) ∧ Below w.heap.size w w' := by
  by_cases h0 : 0 < hi
  · exact div_pos hi lo h0 h1 hlo w
  · obtain rfl : hi = 0 := by omega
    refine (div_zero lo hlo w).mono ?_
    rintro e w' ⟨rfl, hb⟩
    exact ⟨_, by rw [Nat.zero_mul, Nat.zero_add], hb⟩
end Go.Proofs.Yticcicdbncmfbaa
