/- Contracts of package plane's functions at whole numbers below 2^53. -/
import Derived.Test.YtaijnchfjliiaaaChecked
import Derived.Test.YtaijnchfjliiaaaKit
import Derived.Test.YtaijnchfjliiaaaNum
import Derived.WalkKit
import Derived.WalkLawsBesides
import Derived.WalkSpells
namespace Go.Proofs.Ytaijnchfjliiaaa
open Go.RowKit

section
variable {P : Program}
theorem run_add_float (t : TypeId) {x y r : Nat} (h : Ieee.double.add x y = some r) (w : World) : (binOp .add t (.float .f64 x) (.float .f64 y)).run P w = .ok (.float .f64 r) w := by
  have h' : FloatKind.f64.format.add x y = some r := h
  simp [binOp, Op.floatArith, h']
theorem run_sub_float (t : TypeId) {x y r : Nat} (h : Ieee.double.sub x y = some r) (w : World) : (binOp .sub t (.float .f64 x) (.float .f64 y)).run P w = .ok (.float .f64 r) w := by
  have h' : FloatKind.f64.format.sub x y = some r := h
  simp [binOp, Op.floatArith, h']
theorem run_mul_float (t : TypeId) {x y r : Nat} (h : Ieee.double.mul x y = some r) (w : World) : (binOp .mul t (.float .f64 x) (.float .f64 y)).run P w = .ok (.float .f64 r) w := by
  have h' : FloatKind.f64.format.mul x y = some r := h
  simp [binOp, Op.floatArith, h']
theorem run_toInt_float {x : Nat} {n : Int} (h : (FloatKind.f64.decode x).toInt .zero = some n) (hn : -9223372036854775808 ≤ n ∧ n ≤ 9223372036854775807) (w : World) :
    (Conv.floatToInt .f64 x .i64).run P w = .ok (.int .i64 n) w := by
  unfold Conv.floatToInt
  simp only [h]
  rw [if_pos (show IntKind.i64.min ≤ n ∧ n ≤ IntKind.i64.max from hn)]
  rfl
end

theorem order_eq {x : Nat} {n : Int} (h : IsI x n) : FloatKind.f64.format.order x 0 = some (compare n 0) := order_isI h zero_isI

theorem finite_I (x : Nat) (n : Int) (h : IsI x n) (w : World) :
    Calls Try.prog 27 #[.float .f64 x] w fun e w' => e = .returned (.bool true) ∧ w = w' := by
  obtain ⟨z, hz, hI⟩ := sub_isI h h (by omega)
  have e1 := fun W => run_sub_float (P := Try.prog) 33 hz W
  have hz2 : (FloatKind.f64.format.order z 0 == some Ordering.eq) = true := by rw [order_eq hI]; simp
  clear hz hI h
  go_enter Try.func27, Try.ntmps27
  go_wp2
  go_ret
  exact ⟨rfl, rfl⟩

def plB (x : Nat) (n : Int) : Nat := if n = 0 then 0 else x
def IsP (x : Nat) (n : Int) : Prop := IsI x n ∧ (n = 0 → x = 0)
theorem plB_isP {x : Nat} {n : Int} (h : IsI x n) : IsP (plB x n) n := by
  unfold plB
  by_cases h0 : n = 0
  · subst h0; exact ⟨by simpa using zero_isI, fun _ => by simp⟩
  · rw [if_neg h0]; exact ⟨h, fun h1 => absurd h1 h0⟩

theorem plain_I (x : Nat) (n : Int) (h : IsI x n) (w : World) :
    Calls Try.prog 26 #[.float .f64 x] w fun e w' => e = .returned (.float .f64 (plB x n)) ∧ w = w' := by
  have ho := order_eq h
  by_cases h0 : n = 0
  · have hb : (FloatKind.f64.format.order x 0 == some Ordering.eq) = true := by rw [ho, h0]; rfl
    have HP := Lib.hid (show plB x n = 0 by simp [plB, h0])
    clear ho h0 h
    go_enter Try.func26, Try.ntmps26
    go_wp2
    go_ret
    exact ⟨by rw [HP.out]; rfl, rfl⟩
  · have hb : (FloatKind.f64.format.order x 0 == some Ordering.eq) = false := by
      rw [ho]; simp [h0]
    have HP := Lib.hid (show plB x n = x by simp [plB, h0])
    clear ho h0 h
    go_enter Try.func26, Try.ntmps26
    go_wp2
    go_ret
    exact ⟨by rw [HP.out]; rfl, rfl⟩

theorem run_convert_float {P : Program} (w : World) (src dst : TypeId) {x : Nat} {n : Int} (hs : P.underlying src = some (.float .f64)) (hd : P.underlying dst = some (.int .i64))
    (h : (FloatKind.f64.decode x).toInt .zero = some n) (hn : -9223372036854775808 ≤ n ∧ n ≤ 9223372036854775807) : (convert src dst (.float .f64 x)).run P w = .ok (.int .i64 n) w := by
  have := run_toInt_float (P := P) h hn w
  simp [convert, run_underlying hs, run_underlying hd, this]

theorem part_I (x : Nat) (n : Int) (h : IsI x n) (hn : n.natAbs < 2 ^ 53) (w : World) :
    Calls Try.prog 19 #[.float .f64 x] w fun e w' => e = .returned (.int .i64 n) ∧ w = w' := by
  have h1 : (FloatKind.f64.format.order x x != some Ordering.eq) = false := by
    have : FloatKind.f64.format.order x x = some (compare n n) := order_isI h h
    rw [this]; simp
  have o2 : FloatKind.f64.format.order x 4890909195324358656 = some Ordering.lt := order_top h hn
  have o4 : FloatKind.f64.format.order x 14114281232179134464 = some Ordering.gt := order_low h hn
  have h2 : (FloatKind.f64.format.order x 4890909195324358656 == some Ordering.gt) = false := by rw [o2]; rfl
  have h3 : (FloatKind.f64.format.order x 4890909195324358656 == some Ordering.eq) = false := by rw [o2]; rfl
  have h4 : (FloatKind.f64.format.order x 14114281232179134464 == some Ordering.lt) = false := by rw [o4]; rfl
  have e1 := fun W => run_convert_float (P := Try.prog) W 33 2 Try.underlying33 Try.underlying2 (toInt_isI h) (by omega)
  clear h o2 o4
  go_enter Try.func19, Try.ntmps19
  go_wp2
  go_ret
  exact ⟨rfl, rfl⟩

theorem run_bits (b : Nat) (w : World) : (callFunc 23 #[.float .f64 b]).run Try.prog w = .ok (.value (.int .u64 b)) w := by
  rw [run_callFunc_extern Try.func23 (by kernel_rfl) (by kernel_rfl) (by kernel_rfl) (e := Extern.MathFloatBits.float64bits) (by kernel_rfl)]
  rfl

theorem signbit_0 (w : World) :
    Calls Try.prog 21 #[.float .f64 0] w fun e w' => e = .returned (.bool false) ∧ w = w' := by
  have e1 := fun W => run_bits 0 W
  go_enter Try.func21, Try.ntmps21
  go_wp2
  go_ret
  exact ⟨rfl, rfl⟩

theorem ends_I (x y : Nat) (n m : Int) (hx : IsI x n) (hy : IsI y m) (w : World) :
    Calls Try.prog 20 #[.complex .f64 x y] w fun e w' => e = .returned (.bool true) ∧ w = w' := by
  go_enter Try.func20, Try.ntmps20
  go_wp2_with fail
  refine (finite_I x n hx _).mono ?_
  rintro e w' ⟨rfl, rfl⟩
  go_wp2_with fail
  refine (finite_I y m hy _).mono ?_
  rintro e w' ⟨rfl, rfl⟩
  go_wp2_with fail
  go_ret
  exact ⟨rfl, rfl⟩

theorem Plain_I (x y : Nat) (n m : Int) (hx : IsI x n) (hy : IsI y m) (w : World) :
    Calls Try.prog 17 #[.complex .f64 x y] w fun e w' => e = .returned (.complex .f64 (plB x n) (plB y m)) ∧ w = w' := by
  go_enter Try.func17, Try.ntmps17
  go_wp2_with fail
  refine (plain_I x n hx _).mono ?_
  rintro e w' ⟨rfl, rfl⟩
  go_wp2_with fail
  refine (plain_I y m hy _).mono ?_
  rintro e w' ⟨rfl, rfl⟩
  go_wp2_with fail
  go_ret
  exact ⟨rfl, rfl⟩

theorem told_I (a0 a1 b0 b1 x y : Nat) (p q r s n m : Int) (h0 : IsI a0 p) (h1 : IsI a1 q) (h2 : IsI b0 r) (h3 : IsI b1 s) (hx : IsI x n) (hy : IsI y m) (w : World) :
    Calls Try.prog 18 #[.complex .f64 a0 a1, .complex .f64 b0 b1, .float .f64 x, .float .f64 y] w fun e w' =>
      e = .returned (.tuple #[.complex .f64 (plB x n) (plB y m), .int .i64 0]) ∧ w = w' := by
  go_enter Try.func18, Try.ntmps18
  go_wp2_with fail
  refine (ends_I a0 a1 p q h0 h1 _).mono ?_
  rintro e w' ⟨rfl, rfl⟩
  go_wp2_with fail
  refine (ends_I b0 b1 r s h2 h3 _).mono ?_
  rintro e w' ⟨rfl, rfl⟩
  go_wp2_with fail
  refine (ends_I x y n m hx hy _).mono ?_
  rintro e w' ⟨rfl, rfl⟩
  go_wp2_with fail
  refine (Plain_I x y n m hx hy _).mono ?_
  rintro e w' ⟨rfl, rfl⟩
  go_wp2_with fail
  go_ret2
  exact ⟨rfl, rfl⟩

theorem of_I (n m : Int) (w : World) :
    Calls Try.prog 7 #[.int .i64 n, .int .i64 m] w fun e w' => e = .returned (.complex .f64 (FloatKind.f64.nearest n) (FloatKind.f64.nearest m)) ∧ w = w' := by
  go_enter Try.func7, Try.ntmps7
  go_wp2
  go_ret
  exact ⟨rfl, rfl⟩

/-- A complex number of whole parts, no nought with a minus. -/
def CpxI (n m : Int) (v : Value) : Prop := ∃ x y, v = .complex .f64 x y ∧ IsP x n ∧ IsP y m
theorem CpxI.mk {x y : Nat} {n m : Int} (hx : IsI x n) (hy : IsI y m) : CpxI n m (.complex .f64 (plB x n) (plB y m)) := ⟨_, _, rfl, plB_isP hx, plB_isP hy⟩
def TwoI (n m : Int) (e : Ending) : Prop := ∃ v, e = .returned (.tuple #[v, .int .i64 0]) ∧ CpxI n m v

theorem add_I (a0 a1 b0 b1 : Nat) (p q r s : Int) (h0 : IsI a0 p) (h1 : IsI a1 q) (h2 : IsI b0 r) (h3 : IsI b1 s) (hb : (p + r).natAbs < 2 ^ 53 ∧ (q + s).natAbs < 2 ^ 53) (w : World) :
    Calls Try.prog 8 #[.complex .f64 a0 a1, .complex .f64 b0 b1] w fun e w' => TwoI (p + r) (q + s) e ∧ w = w' := by
  obtain ⟨x, hx, hxI⟩ := add_isI h0 h2 hb.1
  obtain ⟨y, hy, hyI⟩ := add_isI h1 h3 hb.2
  have e1 := fun W => run_add_float (P := Try.prog) 33 hx W
  have e2 := fun W => run_add_float (P := Try.prog) 33 hy W
  clear hx hy hb
  go_enter Try.func8, Try.ntmps8
  go_wp2_with fail
  refine (told_I a0 a1 b0 b1 x y p q r s _ _ h0 h1 h2 h3 hxI hyI _).mono ?_
  rintro e w' ⟨rfl, rfl⟩
  go_wp2_with fail
  go_ret2
  exact ⟨⟨_, rfl, CpxI.mk hxI hyI⟩, rfl⟩

theorem mul_I (a0 a1 b0 b1 : Nat) (p q r s : Int) (h0 : IsI a0 p) (h1 : IsI a1 q) (h2 : IsI b0 r) (h3 : IsI b1 s)
    (k1 : (p * r).natAbs < 2 ^ 53) (k2 : (q * s).natAbs < 2 ^ 53) (k3 : (p * s).natAbs < 2 ^ 53) (k4 : (q * r).natAbs < 2 ^ 53)
    (k5 : (p * r - q * s).natAbs < 2 ^ 53) (k6 : (p * s + q * r).natAbs < 2 ^ 53) (w : World) :
    Calls Try.prog 9 #[.complex .f64 a0 a1, .complex .f64 b0 b1] w fun e w' => TwoI (p * r - q * s) (p * s + q * r) e ∧ w = w' := by
  obtain ⟨x1, hx1, i1⟩ := mul_isI h0 h2 k1
  obtain ⟨x2, hx2, i2⟩ := mul_isI h1 h3 k2
  obtain ⟨x3, hx3, i3⟩ := mul_isI h0 h3 k3
  obtain ⟨x4, hx4, i4⟩ := mul_isI h1 h2 k4
  obtain ⟨x, hx, hxI⟩ := sub_isI i1 i2 k5
  obtain ⟨y, hy, hyI⟩ := add_isI i3 i4 k6
  have e1 := fun W => run_mul_float (P := Try.prog) 33 hx1 W
  have e2 := fun W => run_mul_float (P := Try.prog) 33 hx2 W
  have e3 := fun W => run_mul_float (P := Try.prog) 33 hx3 W
  have e4 := fun W => run_mul_float (P := Try.prog) 33 hx4 W
  have e5 := fun W => run_sub_float (P := Try.prog) 33 hx W
  have e6 := fun W => run_add_float (P := Try.prog) 33 hy W
  clear hx hy hx1 hx2 hx3 hx4 k1 k2 k3 k4 k5 k6 i1 i2 i3 i4
  go_enter Try.func9, Try.ntmps9
  go_wp2_with fail
  refine (told_I a0 a1 b0 b1 x y p q r s _ _ h0 h1 h2 h3 hxI hyI _).mono ?_
  rintro e w' ⟨rfl, rfl⟩
  go_wp2_with fail
  go_ret2
  exact ⟨⟨_, rfl, CpxI.mk hxI hyI⟩, rfl⟩

theorem parts_I (x y : Nat) (n m : Int) (hx : IsI x n) (hy : IsI y m) (hn : n.natAbs < 2 ^ 53) (hm : m.natAbs < 2 ^ 53) (w : World) :
    Calls Try.prog 10 #[.complex .f64 x y] w fun e w' => e = .returned (.tuple #[.int .i64 n, .int .i64 m]) ∧ w = w' := by
  go_enter Try.func10, Try.ntmps10
  go_wp2_with fail
  refine (part_I x n hx hn _).mono ?_
  rintro e w' ⟨rfl, rfl⟩
  go_wp2_with fail
  refine (part_I y m hy hm _).mono ?_
  rintro e w' ⟨rfl, rfl⟩
  go_wp2_with fail
  go_ret2
  exact ⟨rfl, rfl⟩
end Go.Proofs.Ytaijnchfjliiaaa
