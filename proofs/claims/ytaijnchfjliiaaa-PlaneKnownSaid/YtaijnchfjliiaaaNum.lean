/- Plain law: floats that are whole numbers below 2^53 are added, taken away, multiplied, compared exactly. No program in sight. -/
import GoSem.Core.Float
import Ieee.Arith
namespace Go.Proofs.Ytaijnchfjliiaaa
open Ieee

theorem log2_mul_pow (k J : Nat) (hk : 0 < k) : (k * 2 ^ J).log2 = k.log2 + J := by
  have hp : 0 < 2 ^ J := Nat.two_pow_pos J
  have hne : k * 2 ^ J ≠ 0 := by
    have := Nat.mul_pos hk hp
    omega
  rw [Nat.log2_eq_iff hne]
  have h1 := Nat.log2_self_le (n := k) (by omega)
  have h2 := Nat.lt_log2_self (n := k)
  constructor
  · rw [Nat.pow_add]; exact Nat.mul_le_mul_right _ h1
  · rw [show k.log2 + J + 1 = (k.log2 + 1) + J from by omega, Nat.pow_add]
    exact Nat.mul_lt_mul_of_pos_right h2 hp

theorem cut_zero (neg : Bool) (n : Nat) : Toward.even.cut neg n 0 = n := by
  unfold Toward.cut
  simp [Nat.mod_one]

theorem cut_exact (neg : Bool) (n d : Nat) (hd : d ≤ (n * 2 ^ d).log2 + 2) : Toward.even.cut neg (n * 2 ^ d) d = n := by
  have hp : 0 < 2 ^ d := Nat.two_pow_pos d
  unfold Toward.cut
  simp only [Nat.min_eq_left hd, Nat.one_shiftLeft, Nat.mul_div_cancel _ hp, Nat.mul_mod_left]
  have h1 : ¬ 2 ^ d < 2 * 0 := by omega
  have h2 : (2 ^ d == 2 * 0) = false := by rw [beq_eq_false_iff_ne]; omega
  simp [h2]

theorem double_binade : double.binade = 2 ^ 52 := rfl
theorem double_least : double.leastPlace = -1074 := rfl
theorem double_inf : double.infRung = 2047 * 2 ^ 52 := rfl
theorem double_sign : double.signWeight = 2048 * 2 ^ 52 := rfl
theorem double_frac : double.fractionBits = 52 := rfl

theorem read_word (neg : Bool) (rung : Nat) (hr : rung < 2047 * 2 ^ 52) :
    double.read (double.word neg rung) = if rung < 2 ^ 52 then .number neg rung (-1074) else .number neg (2 ^ 52 + rung % 2 ^ 52) (-1074 + (rung / 2 ^ 52 - 1 : Nat)) := by
  have hs : double.word neg rung / double.signWeight % 2 = if neg then 1 else 0 := by
    unfold Format.word
    rw [double_sign]
    cases neg
    · simp only [Bool.false_eq_true, if_false]; omega
    · simp only [if_true]; omega
  have hm : double.word neg rung % double.signWeight = rung := by
    unfold Format.word
    rw [double_sign]
    cases neg
    · simp only [Bool.false_eq_true, if_false]; omega
    · simp only [if_true]; omega
  unfold Format.read
  simp only [hs, hm, double_binade, double_inf, double_least]
  have hneg : ((if neg = true then 1 else 0 : Nat) == 1) = neg := by cases neg <;> rfl
  rw [hneg, if_pos hr]

/-- WHAT IS ASKED OF A WORD: it is the whole number n. -/
def IsI (x : Nat) (n : Int) : Prop :=
  ∃ (s : Bool) (k j : Nat), double.read x = .number s (k * 2 ^ j) (-(j : Int)) ∧ j ≤ 1074 ∧ (k = 0 ∨ j ≤ 52) ∧ n = (if s then -(k : Int) else (k : Int)) ∧ k < 2 ^ 53

theorem nearest_exact (neg : Bool) (k J : Nat) (hk : 0 < k) (hk2 : k < 2 ^ 53) :
    ∃ d : Nat, d ≤ 52 ∧ double.read (double.nearest neg (k * 2 ^ J) (-(J : Int))) = .number neg (k * 2 ^ d) (-(d : Int)) := by
  have hp : 0 < 2 ^ J := Nat.two_pow_pos J
  have hne : k * 2 ^ J ≠ 0 := by
    have := Nat.mul_pos hk hp
    omega
  have hlog := log2_mul_pow k J hk
  have hl : k.log2 ≤ 52 := by
    have := (Nat.log2_lt (n := k) (k := 53) (by omega)).2 hk2
    omega
  have h1 := Nat.log2_self_le (n := k) (by omega)
  have h2 := Nat.lt_log2_self (n := k)
  obtain ⟨d, hd⟩ : ∃ d, d + k.log2 = 52 := ⟨52 - k.log2, by omega⟩
  refine ⟨d, by omega, ?_⟩
  have hlo : 2 ^ 52 ≤ k * 2 ^ d := by
    have : 2 ^ (k.log2 + d) ≤ k * 2 ^ d := by rw [Nat.pow_add]; exact Nat.mul_le_mul_right _ h1
    rwa [show k.log2 + d = 52 from by omega] at this
  have hhi : k * 2 ^ d < 2 ^ 53 := by
    have : k * 2 ^ d < 2 ^ (k.log2 + 1 + d) := by rw [Nat.pow_add]; exact Nat.mul_lt_mul_of_pos_right h2 (Nat.two_pow_pos d)
    rwa [show k.log2 + 1 + d = 53 from by omega] at this
  have hlast : max (-(J : Int) + ((k * 2 ^ J).log2 : Int) - (double.fractionBits : Int)) double.leastPlace = -(d : Int) := by
    rw [hlog, double_frac, double_least]
    omega
  have hkept : Toward.even.cut neg ((k * 2 ^ J) <<< (-(J : Int) - -(d : Int)).toNat) (-(d : Int) - -(J : Int)).toNat = k * 2 ^ d := by
    by_cases hJd : J ≤ d
    · have e1 : (-(J : Int) - -(d : Int)).toNat = d - J := by omega
      have e2 : (-(d : Int) - -(J : Int)).toNat = 0 := by omega
      rw [e1, e2, cut_zero, Nat.shiftLeft_eq, Nat.mul_assoc, ← Nat.pow_add, show J + (d - J) = d from by omega]
    · have e1 : (-(J : Int) - -(d : Int)).toNat = 0 := by omega
      have e2 : (-(d : Int) - -(J : Int)).toNat = J - d := by omega
      have e3 : k * 2 ^ J = (k * 2 ^ d) * 2 ^ (J - d) := by rw [Nat.mul_assoc, ← Nat.pow_add, show d + (J - d) = J from by omega]
      rw [e1, e2, Nat.shiftLeft_zero, e3, cut_exact]
      rw [← e3, hlog]; omega
  have hnear : double.nearest neg (k * 2 ^ J) (-(J : Int)) = double.word neg ((1074 - d) * 2 ^ 52 + k * 2 ^ d) := by
    unfold Format.nearest
    rw [if_neg hne]
    simp only [hlast, hkept]
    rw [double_least, double_binade, double_inf, show (-(d : Int) - -1074).toNat = 1074 - d from by omega, Nat.min_eq_left (by omega)]
  rw [hnear, read_word _ _ (by omega), if_neg (by omega)]
  have hdiv : ((1074 - d) * 2 ^ 52 + k * 2 ^ d) / 2 ^ 52 = 1074 - d + 1 := by omega
  have hmod : ((1074 - d) * 2 ^ 52 + k * 2 ^ d) % 2 ^ 52 = k * 2 ^ d - 2 ^ 52 := by omega
  rw [hdiv, hmod, show 2 ^ 52 + (k * 2 ^ d - 2 ^ 52) = k * 2 ^ d from by omega]
  congr 1
  omega

/-- A whole number's sum of parts is written as itself. -/
theorem write_isI (s : Bool) (k J : Nat) (hk2 : k < 2 ^ 53) : IsI (double.write (.number s (k * 2 ^ J) (-(J : Int)))) (if s then -(k : Int) else (k : Int)) := by
  by_cases hk : k = 0
  · subst hk
    obtain ⟨j, hj⟩ : ∃ j : Nat, j = 1074 := ⟨_, rfl⟩
    refine ⟨s, 0, j, ?_, by omega, .inl rfl, rfl, by omega⟩
    show double.read (double.nearest s (0 * 2 ^ J) _) = _
    unfold Format.nearest
    rw [if_pos (by rw [Nat.zero_mul]), read_word _ _ (by omega), if_pos (by omega), Nat.zero_mul, hj]
    rfl
  · obtain ⟨d, hd, hr⟩ := nearest_exact s k J (by omega) hk2
    exact ⟨s, k, d, hr, by omega, .inr hd, rfl, hk2⟩

theorem signed_pow (s : Bool) (k j up : Nat) : signed s (k * 2 ^ j) up = (if s then -(k : Int) else (k : Int)) * ((2 ^ (j + up) : Nat) : Int) := by
  unfold signed
  rw [Nat.shiftLeft_eq, Nat.mul_assoc, ← Nat.pow_add]
  cases s
  · simp
  · simp [Int.neg_mul]

theorem isI_sum {a b : Datum} {s t : Bool} {k l i j : Nat} (ha : a = .number s (k * 2 ^ i) (-(i : Int))) (hb : b = .number t (l * 2 ^ j) (-(j : Int))) (_hi : i ≤ 1074) (_hj : j ≤ 1074)
    (n : Int) (hn : n = (if s then -(k : Int) else (k : Int)) + (if t then -(l : Int) else (l : Int))) (hn2 : n.natAbs < 2 ^ 53) :
    ∃ d, Datum.sum a b = some d ∧ IsI (double.write d) n := by
  subst ha; subst hb
  unfold Datum.sum
  refine ⟨_, rfl, ?_⟩
  have hbase : min (-(i : Int)) (-(j : Int)) = -((max i j : Nat) : Int) := by omega
  simp only [hbase]
  have e1 : (-(i : Int) - -((max i j : Nat) : Int)).toNat = max i j - i := by omega
  have e2 : (-(j : Int) - -((max i j : Nat) : Int)).toNat = max i j - j := by omega
  rw [e1, e2, signed_pow, signed_pow, show i + (max i j - i) = max i j from by omega, show j + (max i j - j) = max i j from by omega, ← Int.add_mul, ← hn, Int.natAbs_mul, Int.natAbs_natCast]
  have hpos : 0 < ((2 ^ (max i j) : Nat) : Int) := by exact_mod_cast Nat.two_pow_pos _
  have h0 : n * ((2 ^ (max i j) : Nat) : Int) = 0 ↔ n = 0 := by
    rw [Int.mul_eq_zero]; omega
  have hlt : n * ((2 ^ (max i j) : Nat) : Int) < 0 ↔ n < 0 := by
    constructor
    · intro h
      rcases Int.lt_or_le n 0 with h' | h'
      · exact h'
      · have := Int.mul_nonneg h' (Int.le_of_lt hpos); omega
    · intro h; exact Int.mul_neg_of_neg_of_pos h hpos
  have key : ∀ sg : Bool, (n ≠ 0 → sg = decide (n < 0)) → IsI (double.write (.number sg (n.natAbs * 2 ^ (max i j)) (-((max i j : Nat) : Int)))) n := by
    intro sg hsg
    have := write_isI sg n.natAbs (max i j) hn2
    have hval : (if sg = true then -((n.natAbs : Nat) : Int) else (n.natAbs : Int)) = n := by
      by_cases hz : n = 0
      · subst hz; simp
      · rw [hsg hz]
        by_cases hneg : n < 0
        · simp [hneg]; omega
        · simp [hneg]; omega
    rw [hval] at this
    exact this
  apply key
  intro hz
  rw [if_neg (fun h => hz (h0.1 h))]
  exact decide_eq_decide.2 hlt

theorem add_isI {x y : Nat} {a b : Int} (hx : IsI x a) (hy : IsI y b) (hb : (a + b).natAbs < 2 ^ 53) : ∃ z, double.add x y = some z ∧ IsI z (a + b) := by
  obtain ⟨s, k, i, hr, hi, _, rfl, _⟩ := hx
  obtain ⟨t, l, j, hr', hj, _, rfl, _⟩ := hy
  obtain ⟨d, hd, hI⟩ := isI_sum hr hr' hi hj _ rfl hb
  exact ⟨_, by unfold Format.add; rw [hd]; rfl, hI⟩

theorem opposite_isI (t : Bool) (l : Nat) (j : Int) : Datum.opposite (.number t l j) = .number (!t) l j := rfl

theorem sub_isI {x y : Nat} {a b : Int} (hx : IsI x a) (hy : IsI y b) (hb : (a - b).natAbs < 2 ^ 53) : ∃ z, double.sub x y = some z ∧ IsI z (a - b) := by
  obtain ⟨s, k, i, hr, hi, _, rfl, _⟩ := hx
  obtain ⟨t, l, j, hr', hj, _, rfl, _⟩ := hy
  have hop : (double.read y).opposite = .number (!t) (l * 2 ^ j) (-(j : Int)) := by rw [hr']; rfl
  obtain ⟨d, hd, hI⟩ := isI_sum hr hop hi hj ((if s = true then -(k : Int) else (k : Int)) - (if t = true then -(l : Int) else (l : Int))) (by cases t <;> simp <;> omega) hb
  exact ⟨_, by unfold Format.sub; rw [hd]; rfl, hI⟩

theorem mul_isI {x y : Nat} {a b : Int} (hx : IsI x a) (hy : IsI y b) (hb : (a * b).natAbs < 2 ^ 53) : ∃ z, double.mul x y = some z ∧ IsI z (a * b) := by
  obtain ⟨s, k, i, hr, hi, hi2, rfl, _⟩ := hx
  obtain ⟨t, l, j, hr', hj, hj2, rfl, _⟩ := hy
  refine ⟨_, by unfold Format.mul; rw [hr, hr']; rfl, ?_⟩
  have e1 : k * 2 ^ i * (l * 2 ^ j) = (k * l) * 2 ^ (i + j) := by
    rw [Nat.pow_add, Nat.mul_assoc, Nat.mul_assoc]; congr 1; rw [← Nat.mul_assoc, ← Nat.mul_assoc, Nat.mul_comm (2 ^ i) l]
  have e2 : -(i : Int) + -(j : Int) = -((i + j : Nat) : Int) := by omega
  rw [e1, e2]
  have hkl : (if s = true then -(k : Int) else (k : Int)) * (if t = true then -(l : Int) else (l : Int)) = if (s ^^ t) = true then -((k * l : Nat) : Int) else ((k * l : Nat) : Int) := by
    cases s <;> cases t <;> simp [Int.neg_mul, Int.mul_neg]
  rw [hkl] at hb ⊢
  have hlt : k * l < 2 ^ 53 := by
    revert hb
    cases (s ^^ t) <;> simp <;> omega
  exact write_isI _ _ _ hlt

theorem order_isI {x y : Nat} {a b : Int} (hx : IsI x a) (hy : IsI y b) : double.order x y = some (compare a b) := by
  obtain ⟨s, k, i, hr, hi, _, rfl, _⟩ := hx
  obtain ⟨t, l, j, hr', hj, _, rfl, _⟩ := hy
  unfold Format.order
  rw [hr, hr']
  unfold Datum.order
  have hbase : min (-(i : Int)) (-(j : Int)) = -((max i j : Nat) : Int) := by omega
  simp only [hbase]
  have e1 : (-(i : Int) - -((max i j : Nat) : Int)).toNat = max i j - i := by omega
  have e2 : (-(j : Int) - -((max i j : Nat) : Int)).toNat = max i j - j := by omega
  rw [e1, e2, signed_pow, signed_pow, show i + (max i j - i) = max i j from by omega, show j + (max i j - j) = max i j from by omega]
  have hpos : 0 < ((2 ^ (max i j) : Nat) : Int) := by exact_mod_cast Nat.two_pow_pos _
  generalize ((2 ^ (max i j) : Nat) : Int) = p at hpos
  generalize (if s = true then -(k : Int) else (k : Int)) = a
  generalize (if t = true then -(l : Int) else (l : Int)) = b
  have h1 : compare (a * p) (b * p) = compare a b := by
    simp only [compare, compareOfLessAndEq]
    have hl : a * p < b * p ↔ a < b := ⟨fun h => Int.lt_of_mul_lt_mul_right h (Int.le_of_lt hpos), fun h => Int.mul_lt_mul_of_pos_right h hpos⟩
    have he : a * p = b * p ↔ a = b := ⟨fun h => Int.eq_of_mul_eq_mul_right (by omega) h, fun h => by rw [h]⟩
    simp only [hl, he]
  rw [h1]

theorem order_big {x y : Nat} {a : Int} (hx : IsI x a) (t : Bool) (l e : Nat) (hy : double.read y = .number t l (e : Int)) :
    double.order x y = some (compare a ((if t then -(l : Int) else (l : Int)) * ((2 ^ e : Nat) : Int))) := by
  obtain ⟨s, k, i, hr, hi, _, rfl, _⟩ := hx
  unfold Format.order
  rw [hr, hy]
  unfold Datum.order
  have hbase : min (-(i : Int)) (e : Int) = -(i : Int) := by omega
  simp only [hbase]
  have e1 : (-(i : Int) - -(i : Int)).toNat = 0 := by omega
  have e2 : ((e : Int) - -(i : Int)).toNat = e + i := by omega
  have e3 : signed t l (e + i) = (if t then -(l : Int) else (l : Int)) * ((2 ^ e : Nat) : Int) * ((2 ^ i : Nat) : Int) := by
    have := signed_pow t l 0 (e + i)
    rw [Nat.pow_zero, Nat.mul_one, Nat.zero_add, Nat.pow_add, Int.natCast_mul, ← Int.mul_assoc] at this
    exact this
  rw [e1, e2, signed_pow, e3, show i + 0 = i from rfl]
  have hpos : 0 < ((2 ^ i : Nat) : Int) := by exact_mod_cast Nat.two_pow_pos _
  generalize ((2 ^ i : Nat) : Int) = p at hpos
  generalize (if s = true then -(k : Int) else (k : Int)) = a
  generalize (if t = true then -(l : Int) else (l : Int)) * ((2 ^ e : Nat) : Int) = b
  have h1 : compare (a * p) (b * p) = compare a b := by
    simp only [compare, compareOfLessAndEq]
    have hl : a * p < b * p ↔ a < b := ⟨fun h => Int.lt_of_mul_lt_mul_right h (Int.le_of_lt hpos), fun h => Int.mul_lt_mul_of_pos_right h hpos⟩
    have he : a * p = b * p ↔ a = b := ⟨fun h => Int.eq_of_mul_eq_mul_right (by omega) h, fun h => by rw [h]⟩
    simp only [hl, he]
  rw [h1]

theorem read_top : double.read 4890909195324358656 = .number false 4503599627370496 11 := by decide +kernel
theorem read_low : double.read 14114281232179134464 = .number true 4503599627370496 11 := by decide +kernel
theorem order_top {x : Nat} {a : Int} (hx : IsI x a) (ha : a.natAbs < 2 ^ 53) : double.order x 4890909195324358656 = some .lt := by
  rw [order_big hx false 4503599627370496 11 read_top]
  congr 1
  simp only [compare, compareOfLessAndEq]
  rw [if_pos]
  simp; omega
theorem order_low {x : Nat} {a : Int} (hx : IsI x a) (ha : a.natAbs < 2 ^ 53) : double.order x 14114281232179134464 = some .gt := by
  rw [order_big hx true 4503599627370496 11 read_low]
  congr 1
  simp only [compare, compareOfLessAndEq]
  rw [if_neg, if_neg]
  · simp; omega
  · simp; omega

theorem zero_isI : IsI 0 0 := by
  have h : IsI (double.write (.number false (0 * 2 ^ 0) (-((0 : Nat) : Int)))) (if false = true then -((0 : Nat) : Int) else ((0 : Nat) : Int)) := write_isI false 0 0 (by omega)
  have e : double.write (.number false (0 * 2 ^ 0) (-((0 : Nat) : Int))) = 0 := by
    show double.nearest false (0 * 2 ^ 0) _ = 0
    unfold Format.nearest
    rw [if_pos (by rw [Nat.zero_mul])]; rfl
  rw [e] at h
  simpa using h

theorem nearest_isI (n : Int) (h : n.natAbs < 2 ^ 53) : IsI (FloatKind.f64.nearest n) n := by
  have := write_isI (decide (n < 0)) n.natAbs 0 h
  have hv : (if decide (n < 0) = true then -((n.natAbs : Nat) : Int) else (n.natAbs : Int)) = n := by
    by_cases hneg : n < 0
    · simp [hneg]; omega
    · simp [hneg]; omega
  rw [hv] at this
  simpa [FloatKind.nearest, FloatKind.encode, FloatKind.format] using this

theorem toInt_isI {x : Nat} {a : Int} (hx : IsI x a) : (FloatKind.f64.decode x).toInt .zero = some a := by
  obtain ⟨s, k, i, hr, hi, _, rfl, _⟩ := hx
  unfold FloatKind.decode FloatKind.format
  simp only [hr]
  unfold Datum.toInt Datum.integral
  simp only
  have e1 : (-(i : Int)).toNat = 0 := by omega
  have e2 : (- -(i : Int)).toNat = i := by omega
  have hc : Toward.zero.cut s (k * 2 ^ i) i = k := by
    unfold Toward.cut
    by_cases hk : k = 0
    · subst hk; simp
    · have hl := log2_mul_pow k i (by omega)
      have hp : 0 < 2 ^ i := Nat.two_pow_pos i
      simp only [Nat.min_eq_left (show i ≤ (k * 2 ^ i).log2 + 2 by omega), Nat.one_shiftLeft, Nat.mul_div_cancel _ hp]
      rfl
  rw [e1, e2, Nat.shiftLeft_zero, hc]
  unfold signed
  cases s <;> simp
end Go.Proofs.Ytaijnchfjliiaaa
