/- The walk of prompterlaw02.PlaneKnown: it returns true. -/
import Derived.Test.YtaijnchfjliiaaaKk
namespace Go.Proofs.Ytaijnchfjliiaaa
open Go.RowKit

theorem part_m (w : World) : Calls Try.prog 19 #[.float .f64 13837084675114480435] w fun e w' => e = .returned (.int .i64 (-2)) ∧ w = w' := by
  have h1 : (FloatKind.f64.format.order 13837084675114480435 13837084675114480435 != some Ordering.eq) = false := by decide +kernel
  have h2 : (FloatKind.f64.format.order 13837084675114480435 4890909195324358656 == some Ordering.gt) = false := by decide +kernel
  have h3 : (FloatKind.f64.format.order 13837084675114480435 4890909195324358656 == some Ordering.eq) = false := by decide +kernel
  have h4 : (FloatKind.f64.format.order 13837084675114480435 14114281232179134464 == some Ordering.lt) = false := by decide +kernel
  have e1 := fun W => run_convert_float (P := Try.prog) (x := 13837084675114480435) (n := -2) W 33 2 Try.underlying33 Try.underlying2 (by decide +kernel) (by omega)
  go_enter Try.func19, Try.ntmps19
  go_wp2
  go_ret
  exact ⟨rfl, rfl⟩
theorem part_b (w : World) : Calls Try.prog 19 #[.float .f64 5055640609639927018] w fun e w' => e = .returned (.int .i64 9223372036854775807) ∧ w = w' := by
  have h1 : (FloatKind.f64.format.order 5055640609639927018 5055640609639927018 != some Ordering.eq) = false := by decide +kernel
  have h2 : (FloatKind.f64.format.order 5055640609639927018 4890909195324358656 == some Ordering.gt) = true := by decide +kernel
  go_enter Try.func19, Try.ntmps19
  go_wp2
  go_ret
  exact ⟨rfl, rfl⟩
theorem parts_k (w : World) : Calls Try.prog 10 #[.complex .f64 13837084675114480435 5055640609639927018] w fun e w' => e = .returned (.tuple #[.int .i64 (-2), .int .i64 9223372036854775807]) ∧ w = w' := by
  go_enter Try.func10, Try.ntmps10
  go_wp2_with fail
  refine (part_m _).mono ?_
  rintro e w' ⟨rfl, rfl⟩
  go_wp2_with fail
  refine (part_b _).mono ?_
  rintro e w' ⟨rfl, rfl⟩
  go_wp2_with fail
  go_ret2
  exact ⟨rfl, rfl⟩

/-- A nought with a minus. -/
def MZ (M : Nat) : Prop := M = 9223372036854775808
theorem MZ.isI {M : Nat} (h : MZ M) : IsI M 0 := by
  obtain rfl : M = 9223372036854775808 := h
  obtain ⟨j, hj⟩ : ∃ j : Nat, j = 1074 := ⟨_, rfl⟩
  refine ⟨true, 0, j, ?_, by omega, .inl rfl, rfl, by omega⟩
  rw [Nat.zero_mul, hj]
  decide +kernel
theorem MZ.neg {M : Nat} (h : MZ M) : wrap64 (M : Int) < 0 := by
  unfold MZ at h
  unfold wrap64
  omega

theorem signbit_M (M : Nat) (h : MZ M) (w : World) : Calls Try.prog 21 #[.float .f64 M] w fun e w' => e = .returned (.bool true) ∧ w = w' := by
  have e1 := fun W => run_bits M W
  have e2 := h.neg
  go_enter Try.func21, Try.ntmps21
  go_wp2
  go_ret
  exact ⟨rfl, rfl⟩

theorem Fine_M (M y : Nat) (m : Int) (h : MZ M) (hy : IsP y m) (w : World) :
    Calls Try.prog 11 #[.complex .f64 M y] w fun e w' => e = .returned (.bool false) ∧ w = w' := by
  have hb : (FloatKind.f64.format.order M 0 == some Ordering.eq) = true := by rw [order_eq h.isI]; rfl
  go_enter Try.func11, Try.ntmps11
  go_wp2_with fail
  refine (ends_I _ _ 0 m h.isI hy.1 _).mono ?_
  rintro e w' ⟨rfl, rfl⟩
  go_wp2_with fail
  refine (signbit_M _ h _).mono ?_
  rintro e w' ⟨rfl, rfl⟩
  go_wp2_with fail
  go_ret
  exact ⟨rfl, rfl⟩

theorem text_M (M y : Nat) (m : Int) (h : MZ M) (hy : IsP y m) (w : World) :
    Calls Try.prog 16 #[.complex .f64 M y] w fun e w' => e = .returned (.string ⟨#[]⟩) ∧ w = w' := by
  go_enter Try.func16, Try.ntmps16
  go_wp2_with fail
  refine (Fine_M M y m h hy _).mono ?_
  rintro e w' ⟨rfl, rfl⟩
  go_wp2_with fail
  go_ret
  exact ⟨rfl, rfl⟩

theorem copysign_M (w : World) : Calls Try.prog 12 #[.float .f64 0, .float .f64 13830554455654793216] w fun e w' => ∃ M, MZ M ∧ e = .returned (.float .f64 M) ∧ w = w' :=
  (copysign_c w).mono fun _ _ ⟨he, hw⟩ => ⟨_, rfl, he, hw⟩

theorem most_fin : Fin 9218868437227405311 := ⟨0, by decide +kernel, by decide +kernel⟩
theorem c5m : IsI 13840687554816376832 (-5) := by
  have h := nearest_isI (-5) (by omega)
  have e : FloatKind.f64.nearest (-5) = 13840687554816376832 := by decide +kernel
  rwa [e] at h
theorem c1m : IsI 13830554455654793216 (-1) := by
  have h := nearest_isI (-1) (by omega)
  have e : FloatKind.f64.nearest (-1) = 13830554455654793216 := by decide +kernel
  rwa [e] at h
theorem c5 : IsI 4617315517961601024 5 := by
  have h := nearest_isI 5 (by omega)
  have e : FloatKind.f64.nearest 5 = 4617315517961601024 := by decide +kernel
  rwa [e] at h

theorem text_00 (w : World) :
    Calls Try.prog 16 #[.complex .f64 0 0] w fun e w' => e = .returned (.string ⟨#[48, 48, 48, 48, 48, 48, 48, 48, 48, 48, 48, 48, 48, 48, 48, 48, 48, 48, 48, 48, 48, 48, 48, 48, 48, 48, 48, 48, 48, 48, 48, 48]⟩) ∧ Below w.heap.size w w' := by
  have h := text_I 0 0 0 0 ⟨zero_isI, fun _ => rfl⟩ ⟨zero_isI, fun _ => rfl⟩ (by omega) (by omega) w
  rw [show (hexB 0 16 ++ hexB 0 16) = [48, 48, 48, 48, 48, 48, 48, 48, 48, 48, 48, 48, 48, 48, 48, 48, 48, 48, 48, 48, 48, 48, 48, 48, 48, 48, 48, 48, 48, 48, 48, 48] from by decide +kernel] at h
  exact h
theorem text_01 (w : World) :
    Calls Try.prog 16 #[.complex .f64 0 4607182418800017408] w fun e w' => e = .returned (.string ⟨#[48, 48, 48, 48, 48, 48, 48, 48, 48, 48, 48, 48, 48, 48, 48, 48, 51, 102, 102, 48, 48, 48, 48, 48, 48, 48, 48, 48, 48, 48, 48, 48]⟩) ∧ Below w.heap.size w w' := by
  have h := text_I 0 4607182418800017408 0 1 ⟨zero_isI, fun _ => rfl⟩ ⟨c1, fun h => by cases h⟩ (by omega) (by omega) w
  rw [show (hexB 0 16 ++ hexB 4607182418800017408 16) = [48, 48, 48, 48, 48, 48, 48, 48, 48, 48, 48, 48, 48, 48, 48, 48, 51, 102, 102, 48, 48, 48, 48, 48, 48, 48, 48, 48, 48, 48, 48, 48] from by decide +kernel] at h
  exact h

theorem ord_of {x c : Nat} {n m : Int} (hx : IsI x n) (hc : IsI c m) (h : n = m) : (FloatKind.f64.format.order x c == some Ordering.eq) = true := by
  have : FloatKind.f64.format.order x c = some (compare n m) := order_isI hx hc
  rw [this, h]; simp

set_option maxHeartbeats 1000000 in
theorem known_walk (w : World) : Calls Try.prog 4 #[] w fun e w' => e = .returned (.bool true) ∧ Below w.heap.size w w' := by
  go_enter Try.func4, Try.ntmps4
  go_wp2_with fail
  refine (copysign_M _).mono ?_
  rintro e w' ⟨M, hM, rfl, rfl⟩
  go_wp2_with fail
  refine (mul_I _ _ _ _ 1 2 3 (-1) c1 c2 c3 c1m (by omega) (by omega) (by omega) (by omega) (by omega) (by omega) _).mono ?_
  rintro e w' ⟨⟨v, rfl, x, y, rfl, hx, hy⟩, rfl⟩
  go_wp2_with fail
  refine (div_13 _).mono ?_
  rintro e w' ⟨rfl, rfl⟩
  go_wp2_with fail
  refine (mul_I _ _ _ _ 0 0 (-5) 0 zero_isI zero_isI c5m zero_isI (by omega) (by omega) (by omega) (by omega) (by omega) (by omega) _).mono ?_
  rintro e w' ⟨⟨v, rfl, x2, y2, rfl, hx2, hy2⟩, rfl⟩
  go_wp2_with fail
  refine (add_over _ _ _ _ 9218868437227405312 0 most_fin zero_isI.fin most_fin zero_isI.fin (by decide +kernel) (by decide +kernel) (by decide +kernel) _).mono ?_
  rintro e w' ⟨rfl, rfl⟩
  go_wp2_with fail
  refine (copysign_M _).mono ?_
  rintro e w' ⟨M2, hM2, rfl, rfl⟩
  go_wp2_with fail
  refine (div_zero _ _ _ _ (by decide +kernel) (by rw [order_eq hM2.isI]; rfl) _).mono ?_
  rintro e w' ⟨rfl, rfl⟩
  go_wp2_with fail
  refine (nan_c _).mono ?_
  rintro e w' ⟨rfl, rfl⟩
  go_wp2_with fail
  refine (div_zero _ _ _ _ (by decide +kernel) (by decide +kernel) _).mono ?_
  rintro e w' ⟨rfl, rfl⟩
  go_wp2_with fail
  refine (inf_c _).mono ?_
  rintro e w' ⟨rfl, rfl⟩
  go_wp2_with fail
  refine (add_beg _ _ _ _ 9218868437227405312 0 (by decide +kernel) (by decide +kernel) (by decide +kernel) _).mono ?_
  rintro e w' ⟨rfl, rfl⟩
  go_wp2_with fail
  refine (parts_k _).mono ?_
  rintro e w' ⟨rfl, rfl⟩
  go_wp2_with fail
  refine (awake_any _).mono ?_
  rintro e w' ⟨rfl, rfl⟩
  have o1 := ord_of hx.1 c5 (by omega)
  have o2 := ord_of hy.1 c5 (by omega)
  have o3 := ord_of (plB_isP c1).1 c1 rfl
  have o4 := ord_of (plB_isP c3).1 c3 rfl
  obtain rfl := hx2.2 (by omega)
  obtain rfl := hy2.2 (by omega)
  go_wp2_with fail
  refine (text_00 _).mono ?_
  rintro e w1 ⟨rfl, hb1⟩
  go_wp2_with fail
  refine (Fine_M M _ 1 hM ⟨c1, fun h => by cases h⟩ _).mono ?_
  rintro e w' ⟨rfl, rfl⟩
  go_wp2_with fail
  refine (text_M M _ 1 hM ⟨c1, fun h => by cases h⟩ _).mono ?_
  rintro e w' ⟨rfl, rfl⟩
  go_wp2_with fail
  refine (Plain_I M _ 0 1 hM.isI c1 _).mono ?_
  rintro e w' ⟨rfl, rfl⟩
  have p1 : plB M 0 = 0 := rfl
  have p2 : plB 4607182418800017408 1 = 4607182418800017408 := rfl
  clear o3
  go_wp2_with fail
  refine (text_01 _).mono ?_
  rintro e w2 ⟨rfl, hb2⟩
  have HB := Lib.hid (show Below w.heap.size w w2 from ((Below.refl w.heap.size w).drew.drew.trans hb1).trans (hb2.mono hb1.size))
  clear hb1 hb2
  go_wp2_with fail
  go_ret
  exact ⟨rfl, HB.out⟩
end Go.Proofs.Ytaijnchfjliiaaa
