/- Plain law: the document's signs, the longer ones first, are the signs. No program in sight. -/
import Derived.Test.YtlfkiaphmifelaaAls
namespace Go.Proofs.Ytlfkiaphmifelaa

def signsL : List (List UInt8) := [[61, 61], [33, 61], [60, 61], [40], [41], [123], [125], [91], [93], [44], [61], [60], [43], [45], [42], [47], [37]]
def mtB (s : List UInt8) (i : Nat) (t : List UInt8) : Bool := decide (i + t.length ≤ s.length) && (cutL s i (i + t.length) == t)
def noSign (s : List UInt8) (i : Nat) (c : UInt8) : (Nat × Nat) ⊕ (Tok × Nat) := if c ≠ 33 then .inl (i, 9) else if s.length = i + 1 then .inl (i + 1, 4) else .inl (i + 1, 9)
def refSign (s : List UInt8) (i : Nat) (c : UInt8) (k : Nat) : (Nat × Nat) ⊕ (Tok × Nat) :=
  match (signsL.drop k).find? (mtB s i) with
  | some t => .inr (⟨4, t, 0, i⟩, i + t.length)
  | none => noSign s i c
section
variable {s : List UInt8} {i : Nat} {c : UInt8}
theorem refSign_end : refSign s i c 17 = noSign s i c := rfl
theorem refSign_yes {k : Nat} {t : List UInt8} (ht : signsL[k]? = some t) (h : mtB s i t = true) : refSign s i c k = .inr (⟨4, t, 0, i⟩, i + t.length) := by
  obtain ⟨hk, he⟩ := List.getElem?_eq_some_iff.1 ht
  unfold refSign
  rw [List.drop_eq_getElem_cons hk, he, List.find?_cons, h]
theorem refSign_no {k : Nat} {t : List UInt8} (ht : signsL[k]? = some t) (h : mtB s i t = false) : refSign s i c k = refSign s i c (k + 1) := by
  obtain ⟨hk, he⟩ := List.getElem?_eq_some_iff.1 ht
  unfold refSign
  rw [List.drop_eq_getElem_cons hk, he, List.find?_cons, h]
theorem cut_one (hc : s[i]? = some c) : cutL s i (i + 1) = [c] := by
  obtain ⟨hk, he⟩ := List.getElem?_eq_some_iff.1 hc
  rw [cut_next s (Nat.le_refl i) hk, cut_self, he]; rfl
theorem mt_one (hc : s[i]? = some c) (a : UInt8) : mtB s i [a] = (c == a) := by
  obtain ⟨hk, _⟩ := List.getElem?_eq_some_iff.1 hc
  unfold mtB
  rw [show ([a] : List UInt8).length = 1 from rfl, cut_one hc, decide_eq_true (by omega : i + 1 ≤ s.length), Bool.true_and, Bool.eq_iff_iff]
  simp
theorem cut_two (hc : s[i]? = some c) {d : UInt8} (hd : s[i + 1]? = some d) : cutL s i (i + 2) = [c, d] := by
  obtain ⟨hk, he⟩ := List.getElem?_eq_some_iff.1 hd
  rw [show i + 2 = i + 1 + 1 from rfl, cut_next s (by omega : i ≤ i + 1) hk, cut_one hc, he]; rfl
theorem mt_two (hc : s[i]? = some c) (a b : UInt8) : mtB s i [a, b] = (c == a && s[i + 1]? == some b) := by
  unfold mtB
  rw [show ([a, b] : List UInt8).length = 2 from rfl]
  cases hd : s[i + 1]? with
  | none =>
    have : s.length ≤ i + 1 := List.getElem?_eq_none_iff.1 hd
    rw [decide_eq_false (by omega : ¬ i + 2 ≤ s.length)]; simp
  | some d =>
    obtain ⟨hk, _⟩ := List.getElem?_eq_some_iff.1 hd
    rw [cut_two hc hd, decide_eq_true (by omega : i + 2 ≤ s.length), Bool.true_and, Bool.eq_iff_iff]
    simp
theorem refSign_eq (hc : s[i]? = some c) : refSign s i c 0 = signL s i c := by
  obtain ⟨hk, _⟩ := List.getElem?_eq_some_iff.1 hc
  have h1 := cut_one hc
  have HF : refSign s i c 0 = match signsL.find? (mtB s i) with | some t => .inr (⟨4, t, 0, i⟩, i + t.length) | none => noSign s i c := rfl
  rw [HF]
  simp only [signsL, List.find?_cons, List.find?_nil, mt_one hc, mt_two hc]
  clear HF
  cases hd : s[i + 1]? with
  | none =>
    have hle2 : s.length = i + 1 := by have := List.getElem?_eq_none_iff.1 hd; omega
    by_cases hm : c ∈ signs
    · have hm0 := hm
      simp only [signs, List.mem_cons, List.not_mem_nil, or_false] at hm0
      rcases hm0 with h | h | h | h | h | h | h | h | h | h | h | h | h | h | h <;> (subst h; simp [signL, noSign, hm, hd, hle2, h1])
    · have hm0 := hm
      simp only [signs, List.mem_cons, List.not_mem_nil, or_false, not_or] at hm0
      obtain ⟨a1, a2, a3, a4, a5, a6, a7, a8, a9, a10, a11, a12, a13, a14, a15⟩ := hm0
      simp only [beq_eq_false_iff_ne.2 a1, beq_eq_false_iff_ne.2 a2, beq_eq_false_iff_ne.2 a3, beq_eq_false_iff_ne.2 a4, beq_eq_false_iff_ne.2 a5, beq_eq_false_iff_ne.2 a6, beq_eq_false_iff_ne.2 a7, beq_eq_false_iff_ne.2 a8, beq_eq_false_iff_ne.2 a9, beq_eq_false_iff_ne.2 a10, beq_eq_false_iff_ne.2 a11, beq_eq_false_iff_ne.2 a12, beq_eq_false_iff_ne.2 a13, beq_eq_false_iff_ne.2 a14, beq_eq_false_iff_ne.2 a15, Bool.false_and]
      simp [signL, noSign, hm, a15]
  | some d =>
    obtain ⟨hk2, _⟩ := List.getElem?_eq_some_iff.1 hd
    have h2 := cut_two hc hd
    have hle : ¬ s.length ≤ i + 1 := by omega
    have hle3 : ¬ s.length = i + 1 := by omega
    by_cases hm : c ∈ signs
    · have hm0 := hm
      simp only [signs, List.mem_cons, List.not_mem_nil, or_false] at hm0
      by_cases hd61 : d = 61
      · subst hd61
        rcases hm0 with h | h | h | h | h | h | h | h | h | h | h | h | h | h | h <;> (subst h; simp [signL, noSign, hm, hd, hle, h1, h2])
      · have hd62 : (some d == some (61 : UInt8)) = false := by rw [beq_eq_false_iff_ne]; intro h; injection h with h; exact hd61 h
        simp only [hd62, Bool.and_false]
        rcases hm0 with h | h | h | h | h | h | h | h | h | h | h | h | h | h | h <;> (subst h; simp [signL, noSign, hm, hd, hd61, hle, hle3, h1])
    · have hm0 := hm
      simp only [signs, List.mem_cons, List.not_mem_nil, or_false, not_or] at hm0
      obtain ⟨a1, a2, a3, a4, a5, a6, a7, a8, a9, a10, a11, a12, a13, a14, a15⟩ := hm0
      simp only [beq_eq_false_iff_ne.2 a1, beq_eq_false_iff_ne.2 a2, beq_eq_false_iff_ne.2 a3, beq_eq_false_iff_ne.2 a4, beq_eq_false_iff_ne.2 a5, beq_eq_false_iff_ne.2 a6, beq_eq_false_iff_ne.2 a7, beq_eq_false_iff_ne.2 a8, beq_eq_false_iff_ne.2 a9, beq_eq_false_iff_ne.2 a10, beq_eq_false_iff_ne.2 a11, beq_eq_false_iff_ne.2 a12, beq_eq_false_iff_ne.2 a13, beq_eq_false_iff_ne.2 a14, beq_eq_false_iff_ne.2 a15, Bool.false_and]
      simp [signL, noSign, hm, a15]
end
end Go.Proofs.Ytlfkiaphmifelaa
