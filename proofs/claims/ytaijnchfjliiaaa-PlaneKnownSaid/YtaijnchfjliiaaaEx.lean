/- The walk of prompterlaw02.PlaneExact: it returns true. -/
import Derived.Test.YtaijnchfjliiaaaFl
namespace Go.Proofs.Ytaijnchfjliiaaa
open Go.RowKit

theorem cut_as (n p : Int) (w : World) (h : n.tmod 1048577 = p) :
    Calls Try.prog 6 #[.int .i64 n] w fun e w' => e = .returned (.int .i64 p) ∧ w = w' := by
  have H := Lib.hid h
  clear h
  go_enter Try.func6, Try.ntmps6
  go_wp2
  go_ret
  exact ⟨ret_int H.out, rfl⟩

theorem Fine_I (x y : Nat) (n m : Int) (hx : IsP x n) (hy : IsP y m) (w : World) :
    Calls Try.prog 11 #[.complex .f64 x y] w fun e w' => e = .returned (.bool true) ∧ w = w' := by
  have ox := order_eq hx.1
  have oy := order_eq hy.1
  by_cases hn : n = 0
  · obtain rfl := hx.2 hn
    have hb : (FloatKind.f64.format.order 0 0 == some Ordering.eq) = true := by decide +kernel
    by_cases hm : m = 0
    · obtain rfl := hy.2 hm
      have HX := Lib.hid hx; have HY := Lib.hid hy
      clear hx hy ox oy hn hm
      go_enter Try.func11, Try.ntmps11
      go_wp2_with fail
      refine (ends_I _ _ n m HX.out.1 HY.out.1 _).mono ?_
      rintro e w' ⟨rfl, rfl⟩
      go_wp2_with fail
      refine (signbit_0 _).mono ?_
      rintro e w' ⟨rfl, rfl⟩
      go_wp2_with fail
      refine (signbit_0 _).mono ?_
      rintro e w' ⟨rfl, rfl⟩
      go_wp2_with fail
      go_ret
      exact ⟨rfl, rfl⟩
    · have hc : (FloatKind.f64.format.order y 0 == some Ordering.eq) = false := by rw [oy]; simp [hm]
      have HX := Lib.hid hx; have HY := Lib.hid hy
      clear hx hy ox oy hn hm
      go_enter Try.func11, Try.ntmps11
      go_wp2_with fail
      refine (ends_I _ _ n m HX.out.1 HY.out.1 _).mono ?_
      rintro e w' ⟨rfl, rfl⟩
      go_wp2_with fail
      refine (signbit_0 _).mono ?_
      rintro e w' ⟨rfl, rfl⟩
      go_wp2_with fail
      go_ret
      exact ⟨rfl, rfl⟩
  · have hb : (FloatKind.f64.format.order x 0 == some Ordering.eq) = false := by rw [ox]; simp [hn]
    by_cases hm : m = 0
    · obtain rfl := hy.2 hm
      have hc : (FloatKind.f64.format.order 0 0 == some Ordering.eq) = true := by decide +kernel
      have HX := Lib.hid hx; have HY := Lib.hid hy
      clear hx hy ox oy hn hm
      go_enter Try.func11, Try.ntmps11
      go_wp2_with fail
      refine (ends_I _ _ n m HX.out.1 HY.out.1 _).mono ?_
      rintro e w' ⟨rfl, rfl⟩
      go_wp2_with fail
      refine (signbit_0 _).mono ?_
      rintro e w' ⟨rfl, rfl⟩
      go_wp2_with fail
      go_ret
      exact ⟨rfl, rfl⟩
    · have hc : (FloatKind.f64.format.order y 0 == some Ordering.eq) = false := by rw [oy]; simp [hm]
      have HX := Lib.hid hx; have HY := Lib.hid hy
      clear hx hy ox oy hn hm
      go_enter Try.func11, Try.ntmps11
      go_wp2_with fail
      refine (ends_I _ _ n m HX.out.1 HY.out.1 _).mono ?_
      rintro e w' ⟨rfl, rfl⟩
      go_wp2_with fail
      go_ret
      exact ⟨rfl, rfl⟩

theorem c1 : IsI 4607182418800017408 1 := by
  have h := nearest_isI 1 (by omega)
  have e : FloatKind.f64.nearest 1 = 4607182418800017408 := by decide +kernel
  rwa [e] at h
theorem c2 : IsI 4611686018427387904 2 := by
  have h := nearest_isI 2 (by omega)
  have e : FloatKind.f64.nearest 2 = 4611686018427387904 := by decide +kernel
  rwa [e] at h
theorem c3 : IsI 4613937818241073152 3 := by
  have h := nearest_isI 3 (by omega)
  have e : FloatKind.f64.nearest 3 = 4613937818241073152 := by decide +kernel
  rwa [e] at h
theorem c4 : IsI 4616189618054758400 4 := by
  have h := nearest_isI 4 (by omega)
  have e : FloatKind.f64.nearest 4 = 4616189618054758400 := by decide +kernel
  rwa [e] at h

theorem awake_any (w : World) : Calls Try.prog 5 #[] w fun e w' => e = .returned (.bool true) ∧ w = w' := by
  go_enter Try.func5, Try.ntmps5
  go_wp2_with fail
  refine (add_I _ _ _ _ 1 2 3 0 c1 c2 c3 zero_isI ⟨by omega, by omega⟩ _).mono ?_
  rintro e w' ⟨⟨v, rfl, x, y, rfl, hx, hy⟩, rfl⟩
  have o1 : (FloatKind.f64.format.order x 4616189618054758400 == some Ordering.eq) = true := by
    have : FloatKind.f64.format.order x 4616189618054758400 = some (compare (1 + 3 : Int) 4) := order_isI hx.1 c4
    rw [this]; rfl
  have o2 : (FloatKind.f64.format.order y 4611686018427387904 == some Ordering.eq) = true := by
    have : FloatKind.f64.format.order y 4611686018427387904 = some (compare (2 + 0 : Int) 2) := order_isI hy.1 c2
    rw [this]; rfl
  go_wp2_with fail
  refine (Fine_I _ _ _ _ hx hy _).mono ?_
  rintro e w' ⟨rfl, rfl⟩
  go_wp2_with fail
  go_ret
  exact ⟨rfl, rfl⟩

def Small (p : Int) : Prop := -1048576 ≤ p ∧ p ≤ 1048576
theorem small_mul {p r : Int} (hp : Small p) (hr : Small r) : -1099511627776 ≤ p * r ∧ p * r ≤ 1099511627776 := by
  have h1 : p.natAbs ≤ 1048576 := by unfold Small at hp; omega
  have h2 : r.natAbs ≤ 1048576 := by unfold Small at hr; omega
  have h3 : (p * r).natAbs ≤ 1048576 * 1048576 := by rw [Int.natAbs_mul]; exact Nat.mul_le_mul h1 h2
  omega
theorem small_cut (n : Int) : Small (n.tmod 1048577) := by
  unfold Small
  have := Int.tmod_lt_of_pos n (b := 1048577) (by omega)
  have h2 := Int.lt_tmod_of_pos n (b := 1048577) (by omega)
  omega

set_option maxHeartbeats 800000 in
theorem exact_walk (a0 a1 a2 a3 : Int) (w : World) :
    Calls Try.prog 3 #[.int .i64 a0, .int .i64 a1, .int .i64 a2, .int .i64 a3] w fun e w' => e = .returned (.bool true) ∧ w = w' := by
  obtain ⟨p, hp⟩ : ∃ p, a0.tmod 1048577 = p := ⟨_, rfl⟩
  obtain ⟨q, hq⟩ : ∃ p, a1.tmod 1048577 = p := ⟨_, rfl⟩
  obtain ⟨r, hr⟩ : ∃ p, a2.tmod 1048577 = p := ⟨_, rfl⟩
  obtain ⟨s, hs⟩ : ∃ p, a3.tmod 1048577 = p := ⟨_, rfl⟩
  have sp : Small p := hp ▸ small_cut a0
  have sq : Small q := hq ▸ small_cut a1
  have sr : Small r := hr ▸ small_cut a2
  have ss : Small s := hs ▸ small_cut a3
  have HP := Lib.hid hp; have HQ := Lib.hid hq; have HR := Lib.hid hr; have HS := Lib.hid hs
  clear hp hq hr hs
  obtain ⟨m1, m1'⟩ := small_mul sp sr
  obtain ⟨m2, m2'⟩ := small_mul sq ss
  obtain ⟨m3, m3'⟩ := small_mul sp ss
  obtain ⟨m4, m4'⟩ := small_mul sq sr
  obtain ⟨sp1, sp2⟩ := sp
  obtain ⟨sq1, sq2⟩ := sq
  obtain ⟨sr1, sr2⟩ := sr
  obtain ⟨ss1, ss2⟩ := ss
  have ip : IsI (FloatKind.f64.nearest p) p := nearest_isI p (by omega)
  have iq : IsI (FloatKind.f64.nearest q) q := nearest_isI q (by omega)
  have ir : IsI (FloatKind.f64.nearest r) r := nearest_isI r (by omega)
  have is : IsI (FloatKind.f64.nearest s) s := nearest_isI s (by omega)
  go_enter Try.func3, Try.ntmps3
  go_wp2_with fail
  refine (awake_any _).mono ?_
  rintro e w' ⟨rfl, rfl⟩
  go_wp2_with fail
  refine (cut_as a0 p _ HP.out).mono ?_
  rintro e w' ⟨rfl, rfl⟩
  go_wp2_with fail
  refine (cut_as a1 q _ HQ.out).mono ?_
  rintro e w' ⟨rfl, rfl⟩
  go_wp2_with fail
  refine (cut_as a2 r _ HR.out).mono ?_
  rintro e w' ⟨rfl, rfl⟩
  go_wp2_with fail
  refine (cut_as a3 s _ HS.out).mono ?_
  rintro e w' ⟨rfl, rfl⟩
  go_wp2_with fail
  refine (of_I p q _).mono ?_
  rintro e w' ⟨rfl, rfl⟩
  go_wp2_with fail
  refine (of_I r s _).mono ?_
  rintro e w' ⟨rfl, rfl⟩
  go_wp2_with fail
  refine (add_I _ _ _ _ p q r s ip iq ir is ⟨by omega, by omega⟩ _).mono ?_
  rintro e w' ⟨⟨v, rfl, x, y, rfl, hx, hy⟩, rfl⟩
  go_wp2_with fail
  refine (mul_I _ _ _ _ p q r s ip iq ir is (by omega) (by omega) (by omega) (by omega) (by omega) (by omega) _).mono ?_
  rintro e w' ⟨⟨v, rfl, x2, y2, rfl, hx2, hy2⟩, rfl⟩
  go_wp2_with fail
  refine (parts_I x y _ _ hx.1 hy.1 (by omega) (by omega) _).mono ?_
  rintro e w' ⟨rfl, rfl⟩
  go_wp2_with fail
  refine (parts_I x2 y2 _ _ hx2.1 hy2.1 (by omega) (by omega) _).mono ?_
  rintro e w' ⟨rfl, rfl⟩
  go_wp2_with fail
  refine (Fine_I x y _ _ hx hy _).mono ?_
  rintro e w' ⟨rfl, rfl⟩
  go_wp2_with fail
  refine (Fine_I x2 y2 _ _ hx2 hy2 _).mono ?_
  rintro e w' ⟨rfl, rfl⟩
  go_wp2_with fail
  go_ret
  exact ⟨rfl, rfl⟩
end Go.Proofs.Ytaijnchfjliiaaa
