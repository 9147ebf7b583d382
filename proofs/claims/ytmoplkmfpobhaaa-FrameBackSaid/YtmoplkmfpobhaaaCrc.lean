/- Plain law: the sum of bytes, by bits and by half bytes. No program in sight. -/
import Derived.Laws.BitsAllLaws
import Derived.Laws.BitsLemmas
namespace Go.Proofs.Ytmoplkmfpobhaaa

/-- One bit. -/
def step (c : Nat) : Nat := if c % 2 = 1 then (c / 2) ^^^ 3988292384 else c / 2
def steps : Nat → Nat → Nat
  | 0, c => c
  | n + 1, c => steps n (step c)

theorem steps_add (m n c : Nat) : steps (m + n) c = steps n (steps m c) := by
  induction m generalizing c with
  | zero => rw [Nat.zero_add]; rfl
  | succ m ih => rw [Nat.succ_add]; exact ih (step c)

theorem steps_succ (n c : Nat) : steps (n + 1) c = step (steps n c) := steps_add n 1 c

theorem step_lt {c : Nat} (h : c < 4294967296) : step c < 4294967296 := by
  unfold step
  split
  · exact Nat.xor_lt_two_pow (n := 32) (by omega) (by omega)
  · omega
theorem steps_lt (n : Nat) {c : Nat} (h : c < 4294967296) : steps n c < 4294967296 := by
  induction n generalizing c with
  | zero => exact h
  | succ n ih => exact ih (step_lt h)

theorem xor_mod2 (a b : Nat) : (a ^^^ b) % 2 = (a % 2 + b % 2) % 2 := by
  have h := Nat.testBit_xor a b 0
  simp only [Nat.testBit_zero] at h
  have ha : a % 2 = 0 ∨ a % 2 = 1 := by omega
  have hb : b % 2 = 0 ∨ b % 2 = 1 := by omega
  have hc : (a ^^^ b) % 2 = 0 ∨ (a ^^^ b) % 2 = 1 := by omega
  rcases ha with ha | ha <;> rcases hb with hb | hb <;> rcases hc with hc | hc <;> simp [ha, hb, hc] at h ⊢

theorem xor_left_comm (a b c : Nat) : a ^^^ (b ^^^ c) = b ^^^ (a ^^^ c) := by
  rw [← Nat.xor_assoc, Nat.xor_comm a b, Nat.xor_assoc]

theorem step_xor (a b : Nat) : step (a ^^^ b) = step a ^^^ step b := by
  unfold step
  rw [xor_mod2, Nat.xor_div_two]
  have ha : a % 2 = 0 ∨ a % 2 = 1 := by omega
  have hb : b % 2 = 0 ∨ b % 2 = 1 := by omega
  rcases ha with ha | ha <;> rcases hb with hb | hb
  · rw [ha, hb]; simp
  · rw [ha, hb]; simp [Nat.xor_assoc]
  · simp only [ha, hb, Nat.reduceAdd, Nat.reduceMod, if_true, Nat.zero_ne_one, if_false]
    rw [Nat.xor_assoc, Nat.xor_assoc, Nat.xor_comm (b / 2)]
  · simp only [ha, hb, Nat.reduceAdd, Nat.reduceMod, if_true, Nat.zero_ne_one, if_false]
    rw [Nat.xor_assoc (a / 2), xor_left_comm 3988292384, Nat.xor_self, Nat.xor_zero]

theorem steps_xor (n a b : Nat) : steps n (a ^^^ b) = steps n a ^^^ steps n b := by
  induction n generalizing a b with
  | zero => rfl
  | succ n ih => show steps n (step (a ^^^ b)) = _; rw [step_xor, ih]; rfl

theorem step_double (k : Nat) : step (2 * k) = k := by
  unfold step
  rw [if_neg (by omega)]; omega

theorem steps_pow (n k : Nat) : steps n (2 ^ n * k) = k := by
  induction n generalizing k with
  | zero => simp [steps]
  | succ n ih =>
    show steps n (step (2 ^ (n + 1) * k)) = k
    rw [show 2 ^ (n + 1) * k = 2 * (2 ^ n * k) from by rw [Nat.pow_succ]; rw [Nat.mul_comm (2 ^ n) 2, Nat.mul_assoc], step_double, ih]

theorem split_xor (c n : Nat) : c = (2 ^ n * (c / 2 ^ n)) ^^^ (c % 2 ^ n) := by
  apply Nat.eq_of_testBit_eq
  intro i
  rw [Nat.testBit_xor, Nat.testBit_two_pow_mul, Nat.testBit_mod_two_pow, Nat.testBit_div_two_pow]
  by_cases h : i < n
  · have h2 : ¬ i ≥ n := by omega
    simp [h, h2]
  · have h2 : i ≥ n := by omega
    simp [h, h2]

/-- A half byte by the table. -/
theorem steps_nibble (c : Nat) : steps 4 c = (c / 16) ^^^ steps 4 (c % 16) := by
  have h := split_xor c 4
  have e : steps 4 c = steps 4 (2 ^ 4 * (c / 2 ^ 4)) ^^^ steps 4 (c % 2 ^ 4) := by rw [← steps_xor, ← h]
  rw [e, steps_pow]

def tbl : List Nat := (List.range 16).map (steps 4)
theorem tbl_get (i : Nat) (h : i < 16) : tbl[i]? = some (steps 4 i) := by
  unfold tbl
  rw [List.getElem?_map, List.getElem?_range h]; rfl

def byteStep (c b : Nat) : Nat := steps 8 (c ^^^ b)
def sumR (c : Nat) (l : List UInt8) : Nat := l.foldl (fun c b => byteStep c b.toNat) c
def sumL (l : List UInt8) : Nat := sumR 4294967295 l ^^^ 4294967295

theorem byteStep_lt {c b : Nat} (hc : c < 4294967296) (hb : b < 256) : byteStep c b < 4294967296 :=
  steps_lt 8 (Nat.xor_lt_two_pow (n := 32) (by omega) (by omega))
theorem sumR_lt (l : List UInt8) {c : Nat} (hc : c < 4294967296) : sumR c l < 4294967296 := by
  induction l generalizing c with
  | nil => exact hc
  | cons b l ih => exact ih (byteStep_lt hc (UInt8.toNat_lt b))
theorem sumL_lt (l : List UInt8) : sumL l < 4294967296 := Nat.xor_lt_two_pow (n := 32) (sumR_lt l (by omega)) (by omega)
theorem sumR_append (c : Nat) (l m : List UInt8) : sumR c (l ++ m) = sumR (sumR c l) m := by unfold sumR; rw [List.foldl_append]
theorem sumR_take (c : Nat) (l : List UInt8) (k : Nat) (h : k < l.length) : sumR c (l.take (k + 1)) = byteStep (sumR c (l.take k)) l[k].toNat := by
  rw [List.take_succ_eq_append_getElem h, sumR_append]; rfl

theorem nibbles (c b : Nat) :
    byteStep c b = (steps 4 (c ^^^ b) / 16) ^^^ steps 4 (steps 4 (c ^^^ b) % 16) := by
  unfold byteStep
  rw [show (8 : Nat) = 4 + 4 from rfl, steps_add, steps_nibble (steps 4 (c ^^^ b))]

/-- Four bytes of a number, the one of least worth first. -/
def le4 (n : Nat) : List UInt8 := [UInt8.ofNat (n % 256), UInt8.ofNat (n / 256 % 256), UInt8.ofNat (n / 65536 % 256), UInt8.ofNat (n / 16777216 % 256)]
def num4 (l : List UInt8) : Nat := (l.getD 0 0).toNat + 256 * (l.getD 1 0).toNat + 65536 * (l.getD 2 0).toNat + 16777216 * (l.getD 3 0).toNat
theorem le4_length (n : Nat) : (le4 n).length = 4 := rfl
theorem num4_le4 (n : Nat) (h : n < 4294967296) (l : List UInt8) : num4 (le4 n ++ l) = n := by
  unfold num4 le4
  simp only [List.cons_append, List.getD_cons_zero, List.getD_cons_succ, UInt8.toNat_ofNat']
  omega
theorem num4_lt (l : List UInt8) : num4 l < 4294967296 := by
  unfold num4
  have h0 := UInt8.toNat_lt (l.getD 0 0)
  have h1 := UInt8.toNat_lt (l.getD 1 0)
  have h2 := UInt8.toNat_lt (l.getD 2 0)
  have h3 := UInt8.toNat_lt (l.getD 3 0)
  omega
end Go.Proofs.Ytmoplkmfpobhaaa
