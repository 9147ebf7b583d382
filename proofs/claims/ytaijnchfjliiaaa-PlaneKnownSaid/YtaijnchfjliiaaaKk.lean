/- Contracts at the chapter's examples: what is not finite, quotients, noughts with a minus. -/
import Derived.Test.YtaijnchfjliiaaaDg
namespace Go.Proofs.Ytaijnchfjliiaaa
open Go.RowKit

theorem finite_nan (x : Nat) (h : Ieee.double.sub x x = none) (w : World) :
    Calls Try.prog 27 #[.float .f64 x] w fun e w' => e = .returned (.bool false) ∧ w.drew = w' := by
  obtain ⟨c, e1, ho⟩ := run_sub_nan (P := Try.prog) 33 h w
  have hz2 : (FloatKind.f64.format.order c 0 == some Ordering.eq) = false := by rw [ho]; rfl
  clear ho h
  go_enter Try.func27, Try.ntmps27
  go_wp2
  go_ret
  exact ⟨rfl, rfl⟩
theorem finite_of (x z : Nat) (h : Ieee.double.sub x x = some z) (hz2 : (FloatKind.f64.format.order z 0 == some Ordering.eq) = true) (w : World) :
    Calls Try.prog 27 #[.float .f64 x] w fun e w' => e = .returned (.bool true) ∧ w = w' := by
  have e1 := fun W => run_sub_float (P := Try.prog) 33 h W
  clear h
  go_enter Try.func27, Try.ntmps27
  go_wp2
  go_ret
  exact ⟨rfl, rfl⟩
def Fin (x : Nat) : Prop := ∃ z, Ieee.double.sub x x = some z ∧ (FloatKind.f64.format.order z 0 == some Ordering.eq) = true
theorem IsI.fin {x : Nat} {n : Int} (h : IsI x n) : Fin x := by
  obtain ⟨z, hz, hI⟩ := sub_isI h h (by omega)
  exact ⟨z, hz, by rw [order_eq hI]; simp⟩
theorem finite_F (x : Nat) (h : Fin x) (w : World) : Calls Try.prog 27 #[.float .f64 x] w fun e w' => e = .returned (.bool true) ∧ w = w' := by
  obtain ⟨z, h1, h2⟩ := h
  exact finite_of x z h1 h2 w
theorem ends_F (x y : Nat) (hx : Fin x) (hy : Fin y) (w : World) :
    Calls Try.prog 20 #[.complex .f64 x y] w fun e w' => e = .returned (.bool true) ∧ w = w' := by
  go_enter Try.func20, Try.ntmps20
  go_wp2_with fail
  refine (finite_F x hx _).mono ?_
  rintro e w' ⟨rfl, rfl⟩
  go_wp2_with fail
  refine (finite_F y hy _).mono ?_
  rintro e w' ⟨rfl, rfl⟩
  go_wp2_with fail
  go_ret
  exact ⟨rfl, rfl⟩
theorem ends_nan (x y : Nat) (hx : Ieee.double.sub x x = none) (w : World) :
    Calls Try.prog 20 #[.complex .f64 x y] w fun e w' => e = .returned (.bool false) ∧ w.drew = w' := by
  have H := Lib.hid hx
  clear hx
  go_enter Try.func20, Try.ntmps20
  go_wp2_with fail
  refine (finite_nan x H.out _).mono ?_
  rintro e w' ⟨rfl, rfl⟩
  go_wp2_with fail
  go_ret
  exact ⟨rfl, rfl⟩
theorem told_end (a0 a1 b0 b1 x y : Nat) (h0 : Fin a0) (h1 : Fin a1) (h2 : Fin b0) (h3 : Fin b1) (hx : Ieee.double.sub x x = none) (w : World) :
    Calls Try.prog 18 #[.complex .f64 a0 a1, .complex .f64 b0 b1, .float .f64 x, .float .f64 y] w fun e w' =>
      e = .returned (.tuple #[.complex .f64 0 0, .int .i64 20]) ∧ w.drew = w' := by
  have H := Lib.hid hx
  clear hx
  go_enter Try.func18, Try.ntmps18
  go_wp2_with fail
  refine (ends_F a0 a1 h0 h1 _).mono ?_
  rintro e w' ⟨rfl, rfl⟩
  go_wp2_with fail
  refine (ends_F b0 b1 h2 h3 _).mono ?_
  rintro e w' ⟨rfl, rfl⟩
  go_wp2_with fail
  refine (ends_nan x y H.out _).mono ?_
  rintro e w' ⟨rfl, rfl⟩
  go_wp2_with fail
  go_ret2
  exact ⟨rfl, rfl⟩
theorem told_beg (a0 a1 b0 b1 x y : Nat) (hx : Ieee.double.sub a0 a0 = none) (w : World) :
    Calls Try.prog 18 #[.complex .f64 a0 a1, .complex .f64 b0 b1, .float .f64 x, .float .f64 y] w fun e w' =>
      e = .returned (.tuple #[.complex .f64 0 0, .int .i64 20]) ∧ w.drew = w' := by
  have H := Lib.hid hx
  clear hx
  go_enter Try.func18, Try.ntmps18
  go_wp2_with fail
  refine (ends_nan a0 a1 H.out _).mono ?_
  rintro e w' ⟨rfl, rfl⟩
  go_wp2_with fail
  go_ret2
  exact ⟨rfl, rfl⟩

theorem add_over (a0 a1 b0 b1 x y : Nat) (h0 : Fin a0) (h1 : Fin a1) (h2 : Fin b0) (h3 : Fin b1) (hx : Ieee.double.add a0 b0 = some x) (hy : Ieee.double.add a1 b1 = some y) (hxx : Ieee.double.sub x x = none) (w : World) :
    Calls Try.prog 8 #[.complex .f64 a0 a1, .complex .f64 b0 b1] w fun e w' => e = .returned (.tuple #[.complex .f64 0 0, .int .i64 20]) ∧ w.drew = w' := by
  have e1 := fun W => run_add_float (P := Try.prog) 33 hx W
  have e2 := fun W => run_add_float (P := Try.prog) 33 hy W
  have H := Lib.hid hxx
  clear hx hy hxx
  go_enter Try.func8, Try.ntmps8
  go_wp2_with fail
  refine (told_end a0 a1 b0 b1 x y h0 h1 h2 h3 H.out _).mono ?_
  rintro e w' ⟨rfl, rfl⟩
  go_wp2_with fail
  go_ret2
  exact ⟨rfl, rfl⟩
theorem add_beg (a0 a1 b0 b1 x y : Nat) (hx : Ieee.double.add a0 b0 = some x) (hy : Ieee.double.add a1 b1 = some y) (hxx : Ieee.double.sub a0 a0 = none) (w : World) :
    Calls Try.prog 8 #[.complex .f64 a0 a1, .complex .f64 b0 b1] w fun e w' => e = .returned (.tuple #[.complex .f64 0 0, .int .i64 20]) ∧ w.drew = w' := by
  have e1 := fun W => run_add_float (P := Try.prog) 33 hx W
  have e2 := fun W => run_add_float (P := Try.prog) 33 hy W
  have H := Lib.hid hxx
  clear hx hy hxx
  go_enter Try.func8, Try.ntmps8
  go_wp2_with fail
  refine (told_beg a0 a1 b0 b1 x y H.out _).mono ?_
  rintro e w' ⟨rfl, rfl⟩
  go_wp2_with fail
  go_ret2
  exact ⟨rfl, rfl⟩

theorem div_zero (a0 a1 r s : Nat) (h1 : (FloatKind.f64.format.order r 0 == some Ordering.eq) = true) (h2 : (FloatKind.f64.format.order s 0 == some Ordering.eq) = true) (w : World) :
    Calls Try.prog 13 #[.complex .f64 a0 a1, .complex .f64 r s] w fun e w' => e = .returned (.tuple #[.complex .f64 0 0, .int .i64 10]) ∧ w = w' := by
  go_enter Try.func13, Try.ntmps13
  go_wp2_with fail
  go_ret2
  exact ⟨rfl, rfl⟩

theorem c4m : IsI 13839561654909534208 (-4) := by
  have h := nearest_isI (-4) (by omega)
  have e : FloatKind.f64.nearest (-4) = 13839561654909534208 := by decide +kernel
  rwa [e] at h
theorem c8 : IsI 4620693217682128896 8 := by
  have h := nearest_isI 8 (by omega)
  have e : FloatKind.f64.nearest 8 = 4620693217682128896 := by decide +kernel
  rwa [e] at h

theorem div_13 (w : World) :
    Calls Try.prog 13 #[.complex .f64 13839561654909534208 4620693217682128896, .complex .f64 4611686018427387904 4611686018427387904] w fun e w' =>
      e = .returned (.tuple #[.complex .f64 (plB 4607182418800017408 1) (plB 4613937818241073152 3), .int .i64 0]) ∧ w = w' := by
  have t1 : (FloatKind.f64.format.order 4611686018427387904 0 == some Ordering.eq) = false := by decide +kernel
  have t2 : (FloatKind.f64.format.order 4611686018427387904 4611686018427387904 == some Ordering.lt) = false := by decide +kernel
  have e1 := fun W => run_quo_float (P := Try.prog) 33 (show Ieee.double.div 4611686018427387904 4611686018427387904 = some 4607182418800017408 by decide +kernel) W
  have e2 := fun W => run_mul_float (P := Try.prog) 33 (show Ieee.double.mul 4611686018427387904 4607182418800017408 = some 4611686018427387904 by decide +kernel) W
  have e3 := fun W => run_add_float (P := Try.prog) 33 (show Ieee.double.add 4611686018427387904 4611686018427387904 = some 4616189618054758400 by decide +kernel) W
  have e4 := fun W => run_mul_float (P := Try.prog) 33 (show Ieee.double.mul 4620693217682128896 4607182418800017408 = some 4620693217682128896 by decide +kernel) W
  have e5 := fun W => run_add_float (P := Try.prog) 33 (show Ieee.double.add 13839561654909534208 4620693217682128896 = some 4616189618054758400 by decide +kernel) W
  have e6 := fun W => run_quo_float (P := Try.prog) 33 (show Ieee.double.div 4616189618054758400 4616189618054758400 = some 4607182418800017408 by decide +kernel) W
  have e7 := fun W => run_mul_float (P := Try.prog) 33 (show Ieee.double.mul 13839561654909534208 4607182418800017408 = some 13839561654909534208 by decide +kernel) W
  have e8 := fun W => run_sub_float (P := Try.prog) 33 (show Ieee.double.sub 4620693217682128896 13839561654909534208 = some 4622945017495814144 by decide +kernel) W
  have e9 := fun W => run_quo_float (P := Try.prog) 33 (show Ieee.double.div 4622945017495814144 4616189618054758400 = some 4613937818241073152 by decide +kernel) W
  go_enter Try.func13, Try.ntmps13
  go_wp2_with fail
  refine (ends_I _ _ _ _ c4m c8 _).mono ?_
  rintro e w' ⟨rfl, rfl⟩
  go_wp2_with fail
  refine (ends_I _ _ _ _ c2 c2 _).mono ?_
  rintro e w' ⟨rfl, rfl⟩
  go_wp2_with fail
  refine (abs_c _).mono ?_
  rintro e w' ⟨rfl, rfl⟩
  go_wp2_with fail
  refine (abs_c _).mono ?_
  rintro e w' ⟨rfl, rfl⟩
  go_wp2_with fail
  refine (told_I _ _ _ _ _ _ _ _ _ _ 1 3 c4m c8 c2 c2 c1 c3 _).mono ?_
  rintro e w' ⟨rfl, rfl⟩
  go_wp2_with fail
  go_ret2
  exact ⟨rfl, rfl⟩
end Go.Proofs.Ytaijnchfjliiaaa
