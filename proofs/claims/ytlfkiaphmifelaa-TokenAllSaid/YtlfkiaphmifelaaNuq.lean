/- Plain law: which digits are too great a number, by their count and their order as texts. No program in sight. -/
import Derived.WalkLawsBesides
import Derived.Test.YtlfkiaphmifelaaAls
namespace Go.Proofs.Ytlfkiaphmifelaa

theorem cut_scan (p : UInt8 → Bool) (s : List UInt8) (i : Nat) : cutL s i (scan p s i) = (s.drop i).takeWhile p := by
  unfold cutL scan
  rw [List.drop_take, Nat.add_sub_cancel_left]
  exact (List.prefix_iff_eq_take.1 (List.takeWhile_prefix p)).symm
theorem cut_all (p : UInt8 → Bool) (s : List UInt8) (i : Nat) : ∀ c ∈ cutL s i (scan p s i), p c = true := by
  rw [cut_scan]
  intro c hc
  have := List.all_takeWhile (l := s.drop i) (p := p)
  rw [List.all_eq_true] at this
  exact this c hc
theorem cut_len (p : UInt8 → Bool) (s : List UInt8) (i : Nat) : (cutL s i (scan p s i)).length = scan p s i - i := by
  rw [cut_scan]; unfold scan; omega

def valF (x : Nat) (l : List UInt8) : Nat := l.foldl (fun x c => 10 * x + (c.toNat - 48)) x
theorem valF_zero (l : List UInt8) : valF 0 l = val l := rfl
theorem valF_eq : ∀ (l : List UInt8) (x : Nat), valF x l = x * 10 ^ l.length + val l
  | [], x => by simp [valF, val]
  | c :: l, x => by
    have h1 : valF x (c :: l) = valF (10 * x + (c.toNat - 48)) l := rfl
    have h2 : val (c :: l) = valF (10 * 0 + (c.toNat - 48)) l := rfl
    rw [h1, h2, valF_eq l, valF_eq l, List.length_cons, Nat.pow_succ, Nat.add_mul, Nat.add_mul]
    have : 10 * x * 10 ^ l.length = x * (10 ^ l.length * 10) := by rw [Nat.mul_comm 10 x, Nat.mul_assoc, Nat.mul_comm 10]
    omega
theorem val_lt : ∀ (l : List UInt8), (∀ c ∈ l, digB c = true) → val l < 10 ^ l.length
  | [], _ => by simp [val]
  | c :: l, h => by
    have h2 : val (c :: l) = valF (10 * 0 + (c.toNat - 48)) l := rfl
    have hd := h c (by simp)
    unfold digB at hd
    have hc : 48 ≤ c.toNat ∧ c.toNat ≤ 57 := by simpa using hd
    have ih := val_lt l (fun d hd => h d (by simp [hd]))
    rw [h2, valF_eq, List.length_cons, Nat.pow_succ]
    obtain ⟨z, hz⟩ : ∃ z, z = 10 ^ l.length := ⟨_, rfl⟩
    rw [← hz] at ih ⊢
    have : (10 * 0 + (c.toNat - 48)) * z ≤ 9 * z := Nat.mul_le_mul_right _ (by omega)
    omega
theorem val_ge (c : UInt8) (l : List UInt8) (hc : 49 ≤ c.toNat) : 10 ^ l.length ≤ val (c :: l) := by
  have h2 : val (c :: l) = valF (10 * 0 + (c.toNat - 48)) l := rfl
  rw [h2, valF_eq]
  have : 1 * 10 ^ l.length ≤ (10 * 0 + (c.toNat - 48)) * 10 ^ l.length := Nat.mul_le_mul_right _ (by omega)
  omega
theorem less_val : ∀ (a b : List UInt8), a.length = b.length → (∀ c ∈ a, digB c = true) → (∀ c ∈ b, digB c = true) → Op.bytesLess a b = decide (val a < val b)
  | [], [], _, _, _ => by simp [Op.bytesLess, val]
  | [], _ :: _, h, _, _ => by simp at h
  | _ :: _, [], h, _, _ => by simp at h
  | c :: a, d :: b, h, ha, hb => by
    have hl : a.length = b.length := by simpa using h
    have ih := less_val a b hl (fun x hx => ha x (by simp [hx])) (fun x hx => hb x (by simp [hx]))
    have h1 : val (c :: a) = valF (10 * 0 + (c.toNat - 48)) a := rfl
    have h2 : val (d :: b) = valF (10 * 0 + (d.toNat - 48)) b := rfl
    have hc0 := ha c (by simp)
    have hd0 := hb d (by simp)
    unfold digB at hc0 hd0
    have hc : 48 ≤ c.toNat ∧ c.toNat ≤ 57 := by simpa using hc0
    have hd : 48 ≤ d.toNat ∧ d.toNat ≤ 57 := by simpa using hd0
    have la := val_lt a (fun x hx => ha x (by simp [hx]))
    have lb := val_lt b (fun x hx => hb x (by simp [hx]))
    rw [Op.bytesLess, ih, h1, h2, valF_eq, valF_eq, ← hl]
    rw [← hl] at lb
    obtain ⟨z, hz⟩ : ∃ z, z = 10 ^ a.length := ⟨_, rfl⟩
    rw [← hz] at la lb ⊢
    rcases Nat.lt_trichotomy c.toNat d.toNat with hlt | heq | hgt
    · have e1 : decide (c < d) = true := decide_eq_true (UInt8.lt_iff_toNat_lt.2 hlt)
      have e2 : (10 * 0 + (c.toNat - 48) + 1) * z ≤ (10 * 0 + (d.toNat - 48)) * z := Nat.mul_le_mul_right _ (by omega)
      rw [Nat.add_mul] at e2
      rw [e1, Bool.true_or]
      exact (decide_eq_true (by omega)).symm
    · have e0 : c = d := UInt8.toNat_inj.1 heq
      subst e0
      have e1 : decide (c < c) = false := decide_eq_false (fun h => by have := UInt8.lt_iff_toNat_lt.1 h; omega)
      rw [e1, beq_self_eq_true, Bool.false_or, Bool.true_and, Bool.eq_iff_iff]
      simp
    · have e1 : decide (c < d) = false := decide_eq_false (fun h => by have := UInt8.lt_iff_toNat_lt.1 h; omega)
      have e3 : (c == d) = false := by rw [beq_eq_false_iff_ne]; intro h; subst h; omega
      have e2 : (10 * 0 + (d.toNat - 48) + 1) * z ≤ (10 * 0 + (c.toNat - 48)) * z := Nat.mul_le_mul_right _ (by omega)
      rw [Nat.add_mul] at e2
      rw [e1, e3, Bool.false_and, Bool.or_self]
      exact (decide_eq_false (by omega)).symm

abbrev most19 : List UInt8 := [57, 50, 50, 51, 51, 55, 50, 48, 51, 54, 56, 53, 52, 55, 55, 53, 56, 48, 55]
theorem val_most : val most19 = 9223372036854775807 := by rfl
theorem most_dig : ∀ c ∈ most19, digB c = true := by decide
/-- Is a text of 19 digits greater than the greatest number's? -/
def bigB (l : List UInt8) : Bool := !(Op.bytesLess l most19 || l == most19)
theorem big_iff {l : List UInt8} (hl : l.length = 19) (hd : ∀ c ∈ l, digB c = true) : bigB l = decide (9223372036854775807 < val l) := by
  have h1 := less_val l most19 (by rw [hl]; rfl) hd most_dig
  have h2 := less_val most19 l (by rw [hl]; rfl) most_dig hd
  rw [val_most] at h1 h2
  unfold bigB
  rw [h1]
  by_cases he : l = most19
  · subst he
    rw [val_most]; simp
  · have he' : (l == most19) = false := by rw [beq_eq_false_iff_ne]; exact he
    have hne : val l ≠ 9223372036854775807 := by
      intro hv
      apply he
      have key : ∀ (a b : List UInt8), a.length = b.length → (∀ c ∈ a, digB c = true) → (∀ c ∈ b, digB c = true) → val a = val b → a = b := by
        intro a
        induction a with
        | nil => intro b h _ _ _; cases b with
          | nil => rfl
          | cons _ _ => simp at h
        | cons c a ih =>
          intro b h ha hb hv
          cases b with
          | nil => simp at h
          | cons d b =>
            have hl : a.length = b.length := by simpa using h
            have h1 : val (c :: a) = valF (10 * 0 + (c.toNat - 48)) a := rfl
            have h2 : val (d :: b) = valF (10 * 0 + (d.toNat - 48)) b := rfl
            have hc0 := ha c (by simp)
            have hd0 := hb d (by simp)
            unfold digB at hc0 hd0
            have hc : 48 ≤ c.toNat ∧ c.toNat ≤ 57 := by simpa using hc0
            have hd : 48 ≤ d.toNat ∧ d.toNat ≤ 57 := by simpa using hd0
            have la := val_lt a (fun x hx => ha x (by simp [hx]))
            have lb := val_lt b (fun x hx => hb x (by simp [hx]))
            rw [h1, h2, valF_eq, valF_eq, ← hl] at hv
            rw [← hl] at lb
            obtain ⟨z, hz⟩ : ∃ z, z = 10 ^ a.length := ⟨_, rfl⟩
            rw [← hz] at la lb hv
            rcases Nat.lt_trichotomy c.toNat d.toNat with hlt | heq | hgt
            · have e2 : (10 * 0 + (c.toNat - 48) + 1) * z ≤ (10 * 0 + (d.toNat - 48)) * z := Nat.mul_le_mul_right _ (by omega)
              rw [Nat.add_mul] at e2
              omega
            · have e0 : c = d := UInt8.toNat_inj.1 heq
              subst e0
              rw [ih b hl (fun x hx => ha x (by simp [hx])) (fun x hx => hb x (by simp [hx])) (by omega)]
            · have e2 : (10 * 0 + (d.toNat - 48) + 1) * z ≤ (10 * 0 + (c.toNat - 48)) * z := Nat.mul_le_mul_right _ (by omega)
              rw [Nat.add_mul] at e2
              omega
      exact key l most19 (by rw [hl]; rfl) hd most_dig (by rw [hv, val_most])
    rw [he', Bool.or_false, Bool.eq_iff_iff]
    simp
    omega

section
variable {s : List UInt8} {i E : Nat}
theorem big_long (hE : scan digB s i = E) (h48 : s[i]? ≠ some 48) (h : 19 < E - i) : 9223372036854775807 < val (cutL s i E) := by
  have hl := cut_len digB s i
  have ha := cut_all digB s i
  rw [hE] at hl ha
  cases hc : cutL s i E with
  | nil => rw [hc] at hl; simp at hl; omega
  | cons c l =>
    rw [hc] at hl ha
    have hs : s[i]? = some c := by
      have h0 : (cutL s i E)[0]? = some c := by rw [hc]; rfl
      unfold cutL at h0
      rw [List.getElem?_drop, List.getElem?_take] at h0
      split at h0
      · simpa using h0
      · cases h0
    have hd := ha c (by simp)
    unfold digB at hd
    have hcc : 48 ≤ c.toNat ∧ c.toNat ≤ 57 := by simpa using hd
    have hne : c.toNat ≠ 48 := fun h => h48 (by rw [hs]; exact congrArg some (UInt8.toNat_inj.1 (by rw [h]; rfl)))
    have hv := val_ge c l (by omega)
    have hl2 : 19 ≤ l.length := by simp at hl; omega
    have hp : 10 ^ 19 ≤ 10 ^ l.length := Nat.pow_le_pow_right (by omega) hl2
    have : (9223372036854775807 : Nat) < 10 ^ 19 := by decide
    omega
theorem big_19 (hE : scan digB s i = E) (h : E - i = 19) : bigB (cutL s i E) = decide (9223372036854775807 < val (cutL s i E)) := by
  have hl := cut_len digB s i
  have ha := cut_all digB s i
  rw [hE] at hl ha
  exact big_iff (by rw [hl, h]) ha
theorem big_short (hE : scan digB s i = E) (h : E - i < 19) : val (cutL s i E) ≤ 9223372036854775807 := by
  have hl := cut_len digB s i
  have ha := cut_all digB s i
  rw [hE] at hl ha
  have hv := val_lt _ ha
  rw [hl] at hv
  have hp : 10 ^ (E - i) ≤ 10 ^ 18 := Nat.pow_le_pow_right (by omega) (by omega)
  have : (10 ^ 18 : Nat) ≤ 9223372036854775807 := by decide
  omega
end
end Go.Proofs.Ytlfkiaphmifelaa
