/- Plain law: what a source's tokens are. No program in sight. -/
import Derived.Test.YtlfkiaphmifelaaDoorTxs
namespace Go.Proofs.YtlfkiaphmifelaaDoor

structure Tok where
  kind : Nat
  text : List UInt8
  int : Nat
  place : Nat
deriving DecidableEq

def wordL (s : List UInt8) (i : Nat) : (Nat × Nat) ⊕ (Tok × Nat) :=
  if 24 < scan innB s i - i then .inl (i, 2) else .inr (⟨1, cutL s i (scan innB s i), 0, i⟩, scan innB s i)
def numT (s : List UInt8) (i : Nat) : (Nat × Nat) ⊕ (Tok × Nat) :=
  if (numL s i).2.2.2 = 0 then .inr (⟨2, [], (numL s i).1, i⟩, (numL s i).2.1) else .inl ((numL s i).2.2.1, (numL s i).2.2.2)
def textT (s : List UInt8) (i : Nat) : (Nat × Nat) ⊕ (Tok × Nat) :=
  if (textL s i (i + 1) []).2.2.2 = 0 then .inr (⟨3, (textL s i (i + 1) []).1, 0, i⟩, (textL s i (i + 1) []).2.1) else .inl ((textL s i (i + 1) []).2.2.1, (textL s i (i + 1) []).2.2.2)
def signs : List UInt8 := [40, 41, 123, 125, 91, 93, 44, 61, 60, 43, 45, 42, 47, 37, 33]
def signL (s : List UInt8) (i : Nat) (c : UInt8) : (Nat × Nat) ⊕ (Tok × Nat) :=
  if c = 33 ∧ s.length ≤ i + 1 then .inl (i + 1, 4)
  else if c = 33 ∧ s[i + 1]? ≠ some 61 then .inl (i + 1, 9)
  else if c ∈ signs then (if (c = 61 ∨ c = 60 ∨ c = 33) ∧ s[i + 1]? = some 61 then .inr (⟨4, cutL s i (i + 2), 0, i⟩, i + 2) else .inr (⟨4, cutL s i (i + 1), 0, i⟩, i + 1))
  else .inl (i, 9)
def oneL (s : List UInt8) (i : Nat) (c : UInt8) : (Nat × Nat) ⊕ (Tok × Nat) :=
  if lowB c then wordL s i else if digB c then numT s i else if c = 34 then textT s i else signL s i c

theorem textN_end (s : List UInt8) (i : Nat) : ∀ (n k : Nat) (b : List UInt8), (textN n s i k b).2.2.2 = 0 → k < (textN n s i k b).2.1 ∧ (textN n s i k b).2.1 ≤ s.length
  | 0, k, b, h => by cases h
  | n + 1, k, b, h => by
    unfold textN at h ⊢
    revert h
    split
    · intro h; cases h
    · rename_i c hc
      have hk : k < s.length := (List.getElem?_eq_some_iff.1 hc).1
      split
      · intro _; exact ⟨by show k < k + 1; omega, by show k + 1 ≤ s.length; omega⟩
      · split
        · intro h; cases h
        · split
          · rename_i q e hch
            intro h
            exfalso
            have h' : e = 0 := h
            unfold charL at hch
            split at hch
            · unfold escL at hch
              split at hch
              · injection hch with hch; injection hch with _ h2; omega
              · split at hch
                · cases hch
                · split at hch
                  · cases hch
                  · split at hch
                    · unfold hex2 at hch
                      split at hch
                      · injection hch with hch; injection hch with _ h2; omega
                      · split at hch
                        · injection hch with hch; injection hch with _ h2; omega
                        · split at hch
                          · injection hch with hch; injection hch with _ h2; omega
                          · split at hch
                            · injection hch with hch; injection hch with _ h2; omega
                            · cases hch
                    · injection hch with hch; injection hch with _ h2; omega
            · cases hch
          · rename_i x nx hch
            have hn := charL_next hch
            split
            · intro h; cases h
            · intro h
              have := textN_end s i n nx _ h
              omega
theorem oneL_next {s : List UInt8} {i : Nat} {c : UInt8} (hc : s[i]? = some c) {t : Tok} {e : Nat} (h : oneL s i c = .inr (t, e)) : i < e ∧ e ≤ s.length := by
  have hi : i < s.length := (List.getElem?_eq_some_iff.1 hc).1
  have hci : s[i] = c := by rw [List.getElem?_eq_getElem hi] at hc; injection hc
  unfold oneL at h
  split at h
  · rename_i hl
    have hp : innB s[i] = true := by rw [hci]; unfold innB; rw [hl]; rfl
    have h1 := scan_step innB s hi hp
    have h2 := scan_ge innB s (i + 1)
    have h3 := scan_le innB s (i := i) (by omega)
    unfold wordL at h
    split at h
    · cases h
    · injection h with h; injection h with _ h; omega
  · split at h
    · rename_i hd
      have h1 := scan_step digB s hi (by rw [hci]; exact hd)
      have h2 := scan_ge digB s (i + 1)
      have h3 := scan_le digB s (i := i) (by omega)
      have key : (numL s i).2.2.2 = 0 → (numL s i).2.1 = scan digB s i := by
        unfold numL
        split
        · intro h; cases h
        · split
          · intro h; cases h
          · split
            · split
              · intro h; cases h
              · intro _; rfl
            · intro _; rfl
      unfold numT at h
      split at h
      · rename_i h0
        have := key h0
        injection h with h; injection h with _ h; omega
      · cases h
    · split at h
      · unfold textT at h
        split at h
        · rename_i h0
          have := textN_end s i s.length (i + 1) [] h0
          injection h with h; injection h with _ h
          unfold textL at h
          omega
        · cases h
      · unfold signL at h
        split at h
        · cases h
        · split at h
          · cases h
          · split at h
            · split at h
              · rename_i h61
                have := (List.getElem?_eq_some_iff.1 h61.2).1
                injection h with h; injection h with _ h; omega
              · injection h with h; injection h with _ h; omega
            · cases h

def notNl (c : UInt8) : Bool := decide (c ≠ 10)
/-- A source's tokens from a place on, behind those that were found; or where it goes wrong, and how. -/
def allN : Nat → List UInt8 → Nat → List Tok → List Tok × Nat × Nat
  | 0, _, _, l => (l, 0, 0)
  | n + 1, s, i, l =>
    match s[i]? with
    | none => (l, 0, 0)
    | some c => if c = 32 ∨ c = 10 then allN n s (i + 1) l else if c = 35 then allN n s (scan notNl s (i + 1)) l else
      match oneL s i c with
      | .inl (q, e) => ([], q, e)
      | .inr (t, e) => allN n s e (l ++ [t])
theorem allN_more (s : List UInt8) : ∀ (n m i : Nat) (l : List Tok), s.length ≤ n + i → n ≤ m → allN m s i l = allN n s i l
  | 0, 0, _, _, _, _ => rfl
  | 0, m + 1, i, l, h, _ => by
    have : s[i]? = none := List.getElem?_eq_none (by omega)
    unfold allN; rw [this]
  | n + 1, 0, _, _, _, h2 => by omega
  | n + 1, m + 1, i, l, h, h2 => by
    unfold allN
    split
    · rfl
    · rename_i c hc
      split
      · exact allN_more s n m _ _ (by omega) (by omega)
      · split
        · have := scan_ge notNl s (i + 1)
          exact allN_more s n m _ _ (by omega) (by omega)
        · split
          · rfl
          · rename_i t e ho
            have := oneL_next hc ho
            exact allN_more s n m _ _ (by omega) (by omega)
def allL (s : List UInt8) (i : Nat) (l : List Tok) : List Tok × Nat × Nat := allN s.length s i l
theorem allL_step (s : List UInt8) (i : Nat) (l : List Tok) : allL s i l =
    match s[i]? with
    | none => (l, 0, 0)
    | some c => if c = 32 ∨ c = 10 then allL s (i + 1) l else if c = 35 then allL s (scan notNl s (i + 1)) l else
      match oneL s i c with
      | .inl (q, e) => ([], q, e)
      | .inr (t, e) => allL s e (l ++ [t]) := by
  unfold allL
  rcases Nat.lt_or_ge i s.length with h | h
  · obtain ⟨n, hn⟩ : ∃ n, s.length = n + 1 := ⟨s.length - 1, by omega⟩
    conv => lhs; rw [hn]; unfold allN
    split
    · rfl
    · rename_i c hc
      split
      · exact (allN_more s n s.length _ _ (by omega) (by omega)).symm
      · split
        · have := scan_ge notNl s (i + 1)
          exact (allN_more s n s.length _ _ (by omega) (by omega)).symm
        · split
          · rfl
          · rename_i t e ho
            have := oneL_next hc ho
            exact (allN_more s n s.length _ _ (by omega) (by omega)).symm
  · have : s[i]? = none := List.getElem?_eq_none h
    rw [this]
    cases hl : s.length with
    | zero => unfold allN; rfl
    | succ n => conv => lhs; unfold allN
                rw [this]
/-- What the source says. -/
def srcL (s : List UInt8) : List Tok × Nat × Nat := if 16384 < s.length then ([], 0, 2) else allL s 0 []
end Go.Proofs.YtlfkiaphmifelaaDoor
