/- Contracts of package plane's and math's functions at the chapter's examples. -/
import Derived.Test.YtaijnchfjliiaaaEx
namespace Go.Proofs.Ytaijnchfjliiaaa
open Go.RowKit

section
variable {P : Program}
theorem run_quo_float (t : TypeId) {x y r : Nat} (h : Ieee.double.div x y = some r) (w : World) : (binOp .quo t (.float .f64 x) (.float .f64 y)).run P w = .ok (.float .f64 r) w := by
  have h' : FloatKind.f64.format.div x y = some r := h
  simp [binOp, Op.floatArith, h']

theorem read_nan (r : Nat) (h1 : 2047 * 2 ^ 52 < r) (h2 : r < 2048 * 2 ^ 52) (s : Bool) : ∃ f, Ieee.double.read (Ieee.double.word s r) = .nan s f := by
  have hs : Ieee.double.word s r / Ieee.double.signWeight % 2 = if s then 1 else 0 := by
    unfold Ieee.Format.word
    rw [double_sign]
    cases s
    · simp only [Bool.false_eq_true, if_false]; omega
    · simp only [if_true]; omega
  have hm : Ieee.double.word s r % Ieee.double.signWeight = r := by
    unfold Ieee.Format.word
    rw [double_sign]
    cases s
    · simp only [Bool.false_eq_true, if_false]; omega
    · simp only [if_true]; omega
  have hneg : ((if s = true then 1 else 0 : Nat) == 1) = s := by cases s <;> rfl
  refine ⟨r - 2047 * 2 ^ 52, ?_⟩
  unfold Ieee.Format.read
  simp only [hs, hm, double_binade, double_inf, double_least]
  rw [hneg, if_neg (by omega), if_neg (by omega), if_neg (by omega)]

theorem order_nan {x y : Nat} {s : Bool} {f : Nat} (h : Ieee.double.read x = .nan s f) : FloatKind.f64.format.order x y = none := by
  have : Ieee.double.order x y = none := by
    unfold Ieee.Format.order
    rw [h]
    cases Ieee.double.read y <;> rfl
  exact this

theorem cut_nan (x y t : Nat) : ∃ s f, Ieee.double.read (Question.cut (.nanBits .f64 x y) t) = .nan s f := by
  have e : Question.cut (.nanBits .f64 x y) t = Ieee.double.word (decide (t % 2 = 1)) (2047 * 2 ^ 52 + 1 + t / 2 % (2 ^ 52 - 1)) := by
    unfold Ieee.Format.word
    rw [double_sign]
    show (t % 2) * 2 ^ 63 + 0x7ff0000000000000 + 1 + (t / 2) % (2 ^ 52 - 1) = _
    by_cases h : t % 2 = 1
    · simp only [h, decide_true, if_true]; omega
    · have h0 : t % 2 = 0 := by omega
      simp only [h0, Nat.zero_ne_one, decide_false, Bool.false_eq_true, if_false]
  rw [e]
  obtain ⟨f, hf⟩ := read_nan (2047 * 2 ^ 52 + 1 + t / 2 % (2 ^ 52 - 1)) (by omega) (by omega) (decide (t % 2 = 1))
  exact ⟨_, f, hf⟩

/-- A difference that is none: some NaN. -/
theorem run_sub_nan (t : TypeId) {x y : Nat} (h : Ieee.double.sub x y = none) (w : World) :
    ∃ c, (binOp .sub t (.float .f64 x) (.float .f64 y)).run P w = .ok (.float .f64 c) w.drew ∧ FloatKind.f64.format.order c 0 = none := by
  have h' : FloatKind.f64.format.sub x y = none := h
  refine ⟨Question.cut (.nanBits .f64 x y) (w.tape w.drawn (.nanBits .f64 x y)), ?_, ?_⟩
  · simp [binOp, Op.floatArith, h', choose, Sem.run, Question.forced]
  · obtain ⟨s, f, hf⟩ := cut_nan x y (w.tape w.drawn (.nanBits .f64 x y))
    exact order_nan hf
end
theorem run_from (n : Int) (w : World) : (callFunc 22 #[.int .u64 n]).run Try.prog w = .ok (.value (.float .f64 n.toNat)) w := by
  rw [run_callFunc_extern Try.func22 (by kernel_rfl) (by kernel_rfl) (by kernel_rfl) (e := Extern.MathFloatBits.float64frombits) (by kernel_rfl)]
  rfl

theorem ret_float {a b : Nat} (h : a = b) : Ending.returned (.float .f64 a) = .returned (.float .f64 b) := by rw [h]

theorem copysign_c (w : World) : Calls Try.prog 12 #[.float .f64 0, .float .f64 13830554455654793216] w fun e w' => e = .returned (.float .f64 9223372036854775808) ∧ w = w' := by
  have e1 := run_bits
  have e2 := run_from
  go_enter Try.func12, Try.ntmps12
  go_wp2
  go_ret
  exact ⟨ret_float (by decide +kernel), rfl⟩
theorem abs_c (w : World) : Calls Try.prog 24 #[.float .f64 4611686018427387904] w fun e w' => e = .returned (.float .f64 4611686018427387904) ∧ w = w' := by
  have e1 := run_bits
  have e2 := run_from
  go_enter Try.func24, Try.ntmps24
  go_wp2
  go_ret
  exact ⟨ret_float (by decide +kernel), rfl⟩
theorem nan_c (w : World) : Calls Try.prog 14 #[] w fun e w' => e = .returned (.float .f64 9221120237041090561) ∧ w = w' := by
  have e2 := run_from
  go_enter Try.func14, Try.ntmps14
  go_wp2
  go_ret
  exact ⟨rfl, rfl⟩
theorem inf_c (w : World) : Calls Try.prog 15 #[.int .i64 1] w fun e w' => e = .returned (.float .f64 9218868437227405312) ∧ w = w' := by
  have e2 := run_from
  go_enter Try.func15, Try.ntmps15
  go_wp2
  go_ret
  exact ⟨rfl, rfl⟩
end Go.Proofs.Ytaijnchfjliiaaa
