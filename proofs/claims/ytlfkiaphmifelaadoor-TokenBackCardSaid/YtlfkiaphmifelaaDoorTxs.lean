/- Plain law: what a text says. No program in sight. -/
import Derived.Test.YtlfkiaphmifelaaDoorSpc
namespace Go.Proofs.YtlfkiaphmifelaaDoor

def hexD (c : UInt8) : Option Nat := if digB c then some (c.toNat - 48) else if 97 ≤ c.toNat ∧ c.toNat ≤ 102 then some (c.toNat - 87) else none
theorem hexD_lt {c : UInt8} {d : Nat} (h : hexD c = some d) : d < 16 := by
  unfold hexD at h
  split at h
  · rename_i hd
    unfold digB at hd
    have : 48 ≤ c.toNat ∧ c.toNat ≤ 57 := by simpa using hd
    injection h with h
    omega
  · split at h
    · injection h with h; omega
    · cases h
/-- Two hexadecimal digits from k on. -/
def hex2 (s : List UInt8) (k : Nat) : (Nat × Nat) ⊕ (Nat × Nat) :=
  match s[k]? with
  | none => .inl (s.length, 4)
  | some a => match hexD a with
    | none => .inl (k, 9)
    | some x => match s[k + 1]? with
      | none => .inl (s.length, 4)
      | some b => match hexD b with
        | none => .inl (k + 1, 9)
        | some y => .inr (16 * x + y, k + 2)
/-- What stands behind a backslash: where it goes wrong and how; or a byte, and where it ends. -/
def escL (s : List UInt8) (k : Nat) : (Nat × Nat) ⊕ (Nat × Nat) :=
  match s[k]? with
  | none => .inl (s.length, 4)
  | some c => if c = 34 ∨ c = 92 then .inr (c.toNat, k + 1) else if c = 110 then .inr (10, k + 1) else if c = 120 then hex2 s (k + 1) else .inl (k, 9)
def charL (s : List UInt8) (c : UInt8) (k : Nat) : (Nat × Nat) ⊕ (Nat × Nat) := if c = 92 then escL s (k + 1) else .inr (c.toNat, k + 1)
/-- A text's bytes, where it ends; or where it goes wrong, and how. -/
def textN : Nat → List UInt8 → Nat → Nat → List UInt8 → List UInt8 × Nat × Nat × Nat
  | 0, s, _, _, _ => ([], 0, s.length, 4)
  | n + 1, s, i, k, b =>
    match s[k]? with
    | none => ([], 0, s.length, 4)
    | some c => if c = 34 then (b, k + 1, 0, 0) else if c.toNat < 32 ∨ 126 < c.toNat then ([], 0, k, 9) else
      match charL s c k with
      | .inl (q, e) => ([], 0, q, e)
      | .inr (x, nx) => if b.length = 4095 then ([], 0, i, 2) else textN n s i nx (b ++ [UInt8.ofNat x])
theorem charL_next {s : List UInt8} {c : UInt8} {k x nx : Nat} (h : charL s c k = .inr (x, nx)) : k < nx ∧ x < 256 := by
  unfold charL at h
  split at h
  · unfold escL at h
    split at h
    · cases h
    · rename_i c' _
      have := UInt8.toNat_lt c'
      split at h
      · injection h with h; injection h with h1 h2; omega
      · split at h
        · injection h with h; injection h with h1 h2; omega
        · split at h
          · unfold hex2 at h
            split at h
            · cases h
            · split at h
              · cases h
              · rename_i h3
                have h3' := hexD_lt h3
                split at h
                · cases h
                · split at h
                  · cases h
                  · rename_i h4
                    have h4' := hexD_lt h4
                    injection h with h; injection h with h1 h2; omega
          · cases h
  · have := UInt8.toNat_lt c
    injection h with h; injection h with h1 h2; omega
theorem textN_more (s : List UInt8) (i : Nat) : ∀ (n m k : Nat) (b : List UInt8), s.length ≤ n + k → n ≤ m → textN m s i k b = textN n s i k b
  | 0, 0, _, _, _, _ => rfl
  | 0, m + 1, k, b, h, _ => by
    have : s[k]? = none := List.getElem?_eq_none (by omega)
    unfold textN; rw [this]
  | n + 1, 0, _, _, _, h2 => by omega
  | n + 1, m + 1, k, b, h, h2 => by
    unfold textN
    split
    · rfl
    · split
      · rfl
      · split
        · rfl
        · split
          · rfl
          · rename_i x nx hc
            have := charL_next hc
            split
            · rfl
            · exact textN_more s i n m nx _ (by omega) (by omega)
def textL (s : List UInt8) (i k : Nat) (b : List UInt8) : List UInt8 × Nat × Nat × Nat := textN s.length s i k b
theorem textL_step (s : List UInt8) (i k : Nat) (b : List UInt8) : textL s i k b =
    match s[k]? with
    | none => ([], 0, s.length, 4)
    | some c => if c = 34 then (b, k + 1, 0, 0) else if c.toNat < 32 ∨ 126 < c.toNat then ([], 0, k, 9) else
      match charL s c k with
      | .inl (q, e) => ([], 0, q, e)
      | .inr (x, nx) => if b.length = 4095 then ([], 0, i, 2) else textL s i nx (b ++ [UInt8.ofNat x]) := by
  unfold textL
  rcases Nat.lt_or_ge k s.length with h | h
  · obtain ⟨n, hn⟩ : ∃ n, s.length = n + 1 := ⟨s.length - 1, by omega⟩
    conv => lhs; rw [hn]; unfold textN
    split
    · rfl
    · split
      · rfl
      · split
        · rfl
        · split
          · rfl
          · rename_i x nx hc
            have := charL_next hc
            split
            · rfl
            · exact (textN_more s i n s.length nx _ (by omega) (by omega)).symm
  · have : s[k]? = none := List.getElem?_eq_none h
    rw [this]
    show textN s.length s i k b = _
    cases hl : s.length with
    | zero => unfold textN; rw [hl]
    | succ n => unfold textN; rw [this, hl]
end Go.Proofs.YtlfkiaphmifelaaDoor
