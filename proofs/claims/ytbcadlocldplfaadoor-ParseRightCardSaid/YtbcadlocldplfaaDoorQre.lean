/- Plain law: what a source's tokens are. No program in sight. And what follows from it. -/
import Derived.Test.YtbcadlocldplfaaDoorChecked
import Derived.Lib.Bytealg
import Derived.Shelf.Strings.Search1
import Derived.WalkMore
import Derived.ScopeJumps
import Derived.Test.YtbcadlocldplfaaDoorQra
set_option linter.unusedSimpArgs false
set_option linter.unusedVariables false
namespace Go.Proofs.YtbcadlocldplfaaDoor
def lowB (c : UInt8) : Bool := decide (97 ≤ c.toNat) && decide (c.toNat ≤ 122)
def digB (c : UInt8) : Bool := decide (48 ≤ c.toNat) && decide (c.toNat ≤ 57)
def innB (c : UInt8) : Bool := lowB c || digB c || decide (c.toNat = 95)
def scan (p : UInt8 → Bool) (s : List UInt8) (i : Nat) : Nat := i + ((s.drop i).takeWhile p).length
section
variable (p : UInt8 → Bool) (s : List UInt8)
theorem scan_ge (i : Nat) : i ≤ scan p s i := Nat.le_add_right _ _
theorem takeWhile_len : ∀ l : List UInt8, (l.takeWhile p).length ≤ l.length
  | [] => by simp
  | c :: l => by
    rw [List.takeWhile_cons]
    have := takeWhile_len l
    split <;> simp <;> omega
theorem scan_le {i : Nat} (h : i ≤ s.length) : scan p s i ≤ s.length := by
  have := takeWhile_len p (s.drop i)
  rw [List.length_drop] at this
  unfold scan; omega
theorem scan_end {i : Nat} (h : s.length ≤ i) : scan p s i = i := by
  unfold scan; rw [List.drop_of_length_le h]; simp
theorem scan_stop {i : Nat} (h : i < s.length) (hp : p s[i] = false) : scan p s i = i := by
  unfold scan; rw [List.drop_eq_getElem_cons h, List.takeWhile_cons, hp]; simp
theorem scan_step {i : Nat} (h : i < s.length) (hp : p s[i] = true) : scan p s i = scan p s (i + 1) := by
  unfold scan; rw [List.drop_eq_getElem_cons h, List.takeWhile_cons, hp]; simp; omega
end
def val (l : List UInt8) : Nat := l.foldl (fun x c => 10 * x + (c.toNat - 48)) 0
theorem val_snoc (l : List UInt8) (c : UInt8) : val (l ++ [c]) = 10 * val l + (c.toNat - 48) := by unfold val; rw [List.foldl_append]; rfl
theorem val_mono_aux : ∀ (m : List UInt8) (x : Nat), x ≤ m.foldl (fun x c => 10 * x + (c.toNat - 48)) x
  | [], _ => Nat.le_refl _
  | c :: m, x => Nat.le_trans (by omega) (val_mono_aux m (10 * x + (c.toNat - 48)))
theorem val_mono (l m : List UInt8) : val l ≤ val (l ++ m) := by unfold val; rw [List.foldl_append]; exact val_mono_aux m _
def cutL (s : List UInt8) (i j : Nat) : List UInt8 := (s.take j).drop i
theorem cut_self (s : List UInt8) (i : Nat) : cutL s i i = [] := List.drop_of_length_le (by rw [List.length_take]; omega)
theorem cut_next (s : List UInt8) {i k : Nat} (hik : i ≤ k) (h : k < s.length) : cutL s i (k + 1) = cutL s i k ++ [s[k]] := by
  unfold cutL; rw [List.take_succ_eq_append_getElem h, List.drop_append_of_le_length (by rw [List.length_take]; omega)]
theorem cut_more (s : List UInt8) {i k e : Nat} (hik : i ≤ k) (hke : k ≤ e) (he : e ≤ s.length) : cutL s i e = cutL s i k ++ cutL s k e := by
  unfold cutL
  have e1 : s.take e = s.take k ++ (s.take e).drop k := by
    have := List.take_append_drop k (s.take e)
    rw [List.take_take, Nat.min_eq_left hke] at this
    exact this.symm
  conv => lhs; rw [e1]
  rw [List.drop_append_of_le_length (by rw [List.length_take]; omega)]
def numL (s : List UInt8) (i : Nat) : Nat × Nat × Nat × Nat :=
  if s[i]? = some 48 ∧ i + 1 < scan digB s i then (0, 0, i + 1, 9)
  else if 9223372036854775807 < val (cutL s i (scan digB s i)) then (0, 0, i, 2)
  else if h : scan digB s i < s.length then (if innB s[scan digB s i] then (0, 0, scan digB s i, 9) else (val (cutL s i (scan digB s i)), scan digB s i, 0, 0))
  else (val (cutL s i (scan digB s i)), scan digB s i, 0, 0)
section
variable {s : List UInt8} {i k : Nat}
theorem numL_end (hE : scan digB s i = k) (h48 : i + 1 < k → s[i]? ≠ some 48) (hv : val (cutL s i k) ≤ 9223372036854775807) (hk : s.length ≤ k) : numL s i = (val (cutL s i k), k, 0, 0) := by
  unfold numL
  rw [hE, if_neg (fun h => h48 h.2 h.1), if_neg (by omega), dif_neg (by omega)]
theorem numL_next (hE : scan digB s i = k) (h48 : i + 1 < k → s[i]? ≠ some 48) (hv : val (cutL s i k) ≤ 9223372036854775807) (hk : k < s.length) : numL s i = if innB s[k] then (0, 0, k, 9) else (val (cutL s i k), k, 0, 0) := by
  unfold numL
  subst hE
  rw [if_neg (fun h => h48 h.2 h.1), if_neg (by omega), dif_pos hk]
theorem numL_zero (h0 : s[i]? = some 48) (h : i + 1 < scan digB s i) : numL s i = (0, 0, i + 1, 9) := by
  unfold numL; rw [if_pos ⟨h0, h⟩]
theorem numL_long (h48 : ¬ (s[i]? = some 48 ∧ i + 1 < scan digB s i)) (hv : 9223372036854775807 < val (cutL s i (scan digB s i))) : numL s i = (0, 0, i, 2) := by
  unfold numL; rw [if_neg h48, if_pos hv]
end
def hexD (c : UInt8) : Option Nat := if digB c then some (c.toNat - 48) else if 97 ≤ c.toNat ∧ c.toNat ≤ 102 then some (c.toNat - 87) else none
theorem hexD_lt {c : UInt8} {d : Nat} (h : hexD c = some d) : d < 16 := by
  unfold hexD at h
  split at h
  · rename_i hd
    unfold digB at hd
    have : 48 ≤ c.toNat ∧ c.toNat ≤ 57 := by simpa using hd
    injection h with h
    omega
  · split at h
    · injection h with h; omega
    · cases h
def hex2 (s : List UInt8) (k : Nat) : (Nat × Nat) ⊕ (Nat × Nat) :=
  match s[k]? with
  | none => .inl (s.length, 4)
  | some a => match hexD a with
    | none => .inl (k, 9)
    | some x => match s[k + 1]? with
      | none => .inl (s.length, 4)
      | some b => match hexD b with
        | none => .inl (k + 1, 9)
        | some y => .inr (16 * x + y, k + 2)
def escL (s : List UInt8) (k : Nat) : (Nat × Nat) ⊕ (Nat × Nat) :=
  match s[k]? with
  | none => .inl (s.length, 4)
  | some c => if c = 34 ∨ c = 92 then .inr (c.toNat, k + 1) else if c = 110 then .inr (10, k + 1) else if c = 120 then hex2 s (k + 1) else .inl (k, 9)
def charL (s : List UInt8) (c : UInt8) (k : Nat) : (Nat × Nat) ⊕ (Nat × Nat) := if c = 92 then escL s (k + 1) else .inr (c.toNat, k + 1)
def textN : Nat → List UInt8 → Nat → Nat → List UInt8 → List UInt8 × Nat × Nat × Nat
  | 0, s, _, _, _ => ([], 0, s.length, 4)
  | n + 1, s, i, k, b =>
    match s[k]? with
    | none => ([], 0, s.length, 4)
    | some c => if c = 34 then (b, k + 1, 0, 0) else if c.toNat < 32 ∨ 126 < c.toNat then ([], 0, k, 9) else
      match charL s c k with
      | .inl (q, e) => ([], 0, q, e)
      | .inr (x, nx) => if b.length = 4095 then ([], 0, i, 2) else textN n s i nx (b ++ [UInt8.ofNat x])
theorem charL_next {s : List UInt8} {c : UInt8} {k x nx : Nat} (h : charL s c k = .inr (x, nx)) : k < nx ∧ x < 256 := by
  unfold charL at h
  split at h
  · unfold escL at h
    split at h
    · cases h
    · rename_i c' _
      have := UInt8.toNat_lt c'
      split at h
      · injection h with h; injection h with h1 h2; omega
      · split at h
        · injection h with h; injection h with h1 h2; omega
        · split at h
          · unfold hex2 at h
            split at h
            · cases h
            · split at h
              · cases h
              · rename_i h3
                have h3' := hexD_lt h3
                split at h
                · cases h
                · split at h
                  · cases h
                  · rename_i h4
                    have h4' := hexD_lt h4
                    injection h with h; injection h with h1 h2; omega
          · cases h
  · have := UInt8.toNat_lt c
    injection h with h; injection h with h1 h2; omega
theorem textN_more (s : List UInt8) (i : Nat) : ∀ (n m k : Nat) (b : List UInt8), s.length ≤ n + k → n ≤ m → textN m s i k b = textN n s i k b
  | 0, 0, _, _, _, _ => rfl
  | 0, m + 1, k, b, h, _ => by
    have : s[k]? = none := List.getElem?_eq_none (by omega)
    unfold textN; rw [this]
  | n + 1, 0, _, _, _, h2 => by omega
  | n + 1, m + 1, k, b, h, h2 => by
    unfold textN
    split
    · rfl
    · split
      · rfl
      · split
        · rfl
        · split
          · rfl
          · rename_i x nx hc
            have := charL_next hc
            split
            · rfl
            · exact textN_more s i n m nx _ (by omega) (by omega)
def textL (s : List UInt8) (i k : Nat) (b : List UInt8) : List UInt8 × Nat × Nat × Nat := textN s.length s i k b
theorem textL_step (s : List UInt8) (i k : Nat) (b : List UInt8) : textL s i k b =
    match s[k]? with
    | none => ([], 0, s.length, 4)
    | some c => if c = 34 then (b, k + 1, 0, 0) else if c.toNat < 32 ∨ 126 < c.toNat then ([], 0, k, 9) else
      match charL s c k with
      | .inl (q, e) => ([], 0, q, e)
      | .inr (x, nx) => if b.length = 4095 then ([], 0, i, 2) else textL s i nx (b ++ [UInt8.ofNat x]) := by
  unfold textL
  rcases Nat.lt_or_ge k s.length with h | h
  · obtain ⟨n, hn⟩ : ∃ n, s.length = n + 1 := ⟨s.length - 1, by omega⟩
    conv => lhs; rw [hn]; unfold textN
    split
    · rfl
    · split
      · rfl
      · split
        · rfl
        · split
          · rfl
          · rename_i x nx hc
            have := charL_next hc
            split
            · rfl
            · exact (textN_more s i n s.length nx _ (by omega) (by omega)).symm
  · have : s[k]? = none := List.getElem?_eq_none h
    rw [this]
    show textN s.length s i k b = _
    cases hl : s.length with
    | zero => unfold textN; rw [hl]
    | succ n => unfold textN; rw [this, hl]
structure Tok where
  kind : Nat
  text : List UInt8
  int : Nat
  place : Nat
deriving DecidableEq
def wordL (s : List UInt8) (i : Nat) : (Nat × Nat) ⊕ (Tok × Nat) :=
  if 24 < scan innB s i - i then .inl (i, 2) else .inr (⟨1, cutL s i (scan innB s i), 0, i⟩, scan innB s i)
def numT (s : List UInt8) (i : Nat) : (Nat × Nat) ⊕ (Tok × Nat) :=
  if (numL s i).2.2.2 = 0 then .inr (⟨2, [], (numL s i).1, i⟩, (numL s i).2.1) else .inl ((numL s i).2.2.1, (numL s i).2.2.2)
def textT (s : List UInt8) (i : Nat) : (Nat × Nat) ⊕ (Tok × Nat) :=
  if (textL s i (i + 1) []).2.2.2 = 0 then .inr (⟨3, (textL s i (i + 1) []).1, 0, i⟩, (textL s i (i + 1) []).2.1) else .inl ((textL s i (i + 1) []).2.2.1, (textL s i (i + 1) []).2.2.2)
def signs : List UInt8 := [40, 41, 123, 125, 91, 93, 44, 61, 60, 43, 45, 42, 47, 37, 33]
def signL (s : List UInt8) (i : Nat) (c : UInt8) : (Nat × Nat) ⊕ (Tok × Nat) :=
  if c = 33 ∧ s.length ≤ i + 1 then .inl (i + 1, 4)
  else if c = 33 ∧ s[i + 1]? ≠ some 61 then .inl (i + 1, 9)
  else if c ∈ signs then (if (c = 61 ∨ c = 60 ∨ c = 33) ∧ s[i + 1]? = some 61 then .inr (⟨4, cutL s i (i + 2), 0, i⟩, i + 2) else .inr (⟨4, cutL s i (i + 1), 0, i⟩, i + 1))
  else .inl (i, 9)
def oneL (s : List UInt8) (i : Nat) (c : UInt8) : (Nat × Nat) ⊕ (Tok × Nat) :=
  if lowB c then wordL s i else if digB c then numT s i else if c = 34 then textT s i else signL s i c
theorem textN_end (s : List UInt8) (i : Nat) : ∀ (n k : Nat) (b : List UInt8), (textN n s i k b).2.2.2 = 0 → k < (textN n s i k b).2.1 ∧ (textN n s i k b).2.1 ≤ s.length
  | 0, k, b, h => by cases h
  | n + 1, k, b, h => by
    unfold textN at h ⊢
    revert h
    split
    · intro h; cases h
    · rename_i c hc
      have hk : k < s.length := (List.getElem?_eq_some_iff.1 hc).1
      split
      · intro _; exact ⟨by show k < k + 1; omega, by show k + 1 ≤ s.length; omega⟩
      · split
        · intro h; cases h
        · split
          · rename_i q e hch
            intro h
            exfalso
            have h' : e = 0 := h
            unfold charL at hch
            split at hch
            · unfold escL at hch
              split at hch
              · injection hch with hch; injection hch with _ h2; omega
              · split at hch
                · cases hch
                · split at hch
                  · cases hch
                  · split at hch
                    · unfold hex2 at hch
                      split at hch
                      · injection hch with hch; injection hch with _ h2; omega
                      · split at hch
                        · injection hch with hch; injection hch with _ h2; omega
                        · split at hch
                          · injection hch with hch; injection hch with _ h2; omega
                          · split at hch
                            · injection hch with hch; injection hch with _ h2; omega
                            · cases hch
                    · injection hch with hch; injection hch with _ h2; omega
            · cases hch
          · rename_i x nx hch
            have hn := charL_next hch
            split
            · intro h; cases h
            · intro h
              have := textN_end s i n nx _ h
              omega
theorem oneL_next {s : List UInt8} {i : Nat} {c : UInt8} (hc : s[i]? = some c) {t : Tok} {e : Nat} (h : oneL s i c = .inr (t, e)) : i < e ∧ e ≤ s.length := by
  have hi : i < s.length := (List.getElem?_eq_some_iff.1 hc).1
  have hci : s[i] = c := by rw [List.getElem?_eq_getElem hi] at hc; injection hc
  unfold oneL at h
  split at h
  · rename_i hl
    have hp : innB s[i] = true := by rw [hci]; unfold innB; rw [hl]; rfl
    have h1 := scan_step innB s hi hp
    have h2 := scan_ge innB s (i + 1)
    have h3 := scan_le innB s (i := i) (by omega)
    unfold wordL at h
    split at h
    · cases h
    · injection h with h; injection h with _ h; omega
  · split at h
    · rename_i hd
      have h1 := scan_step digB s hi (by rw [hci]; exact hd)
      have h2 := scan_ge digB s (i + 1)
      have h3 := scan_le digB s (i := i) (by omega)
      have key : (numL s i).2.2.2 = 0 → (numL s i).2.1 = scan digB s i := by
        unfold numL
        split
        · intro h; cases h
        · split
          · intro h; cases h
          · split
            · split
              · intro h; cases h
              · intro _; rfl
            · intro _; rfl
      unfold numT at h
      split at h
      · rename_i h0
        have := key h0
        injection h with h; injection h with _ h; omega
      · cases h
    · split at h
      · unfold textT at h
        split at h
        · rename_i h0
          have := textN_end s i s.length (i + 1) [] h0
          injection h with h; injection h with _ h
          unfold textL at h
          omega
        · cases h
      · unfold signL at h
        split at h
        · cases h
        · split at h
          · cases h
          · split at h
            · split at h
              · rename_i h61
                have := (List.getElem?_eq_some_iff.1 h61.2).1
                injection h with h; injection h with _ h; omega
              · injection h with h; injection h with _ h; omega
            · cases h
def notNl (c : UInt8) : Bool := decide (c ≠ 10)
def allN : Nat → List UInt8 → Nat → List Tok → List Tok × Nat × Nat
  | 0, _, _, l => (l, 0, 0)
  | n + 1, s, i, l =>
    match s[i]? with
    | none => (l, 0, 0)
    | some c => if c = 32 ∨ c = 10 then allN n s (i + 1) l else if c = 35 then allN n s (scan notNl s (i + 1)) l else
      match oneL s i c with
      | .inl (q, e) => ([], q, e)
      | .inr (t, e) => allN n s e (l ++ [t])
theorem allN_more (s : List UInt8) : ∀ (n m i : Nat) (l : List Tok), s.length ≤ n + i → n ≤ m → allN m s i l = allN n s i l
  | 0, 0, _, _, _, _ => rfl
  | 0, m + 1, i, l, h, _ => by
    have : s[i]? = none := List.getElem?_eq_none (by omega)
    unfold allN; rw [this]
  | n + 1, 0, _, _, _, h2 => by omega
  | n + 1, m + 1, i, l, h, h2 => by
    unfold allN
    split
    · rfl
    · rename_i c hc
      split
      · exact allN_more s n m _ _ (by omega) (by omega)
      · split
        · have := scan_ge notNl s (i + 1)
          exact allN_more s n m _ _ (by omega) (by omega)
        · split
          · rfl
          · rename_i t e ho
            have := oneL_next hc ho
            exact allN_more s n m _ _ (by omega) (by omega)
def allL (s : List UInt8) (i : Nat) (l : List Tok) : List Tok × Nat × Nat := allN s.length s i l
theorem allL_step (s : List UInt8) (i : Nat) (l : List Tok) : allL s i l =
    match s[i]? with
    | none => (l, 0, 0)
    | some c => if c = 32 ∨ c = 10 then allL s (i + 1) l else if c = 35 then allL s (scan notNl s (i + 1)) l else
      match oneL s i c with
      | .inl (q, e) => ([], q, e)
      | .inr (t, e) => allL s e (l ++ [t]) := by
  unfold allL
  rcases Nat.lt_or_ge i s.length with h | h
  · obtain ⟨n, hn⟩ : ∃ n, s.length = n + 1 := ⟨s.length - 1, by omega⟩
    conv => lhs; rw [hn]; unfold allN
    split
    · rfl
    · rename_i c hc
      split
      · exact (allN_more s n s.length _ _ (by omega) (by omega)).symm
      · split
        · have := scan_ge notNl s (i + 1)
          exact (allN_more s n s.length _ _ (by omega) (by omega)).symm
        · split
          · rfl
          · rename_i t e ho
            have := oneL_next hc ho
            exact (allN_more s n s.length _ _ (by omega) (by omega)).symm
  · have : s[i]? = none := List.getElem?_eq_none h
    rw [this]
    cases hl : s.length with
    | zero => unfold allN; rfl
    | succ n => conv => lhs; unfold allN
                rw [this]
def srcL (s : List UInt8) : List Tok × Nat × Nat := if 16384 < s.length then ([], 0, 2) else allL s 0 []
theorem numL_ok {s : List UInt8} {i : Nat} (h : (numL s i).2.2.2 = 0) : numL s i = (val (cutL s i (scan digB s i)), scan digB s i, 0, 0) ∧ ¬ (s[i]? = some 48 ∧ i + 1 < scan digB s i) ∧ val (cutL s i (scan digB s i)) ≤ 9223372036854775807 := by
  unfold numL at h ⊢
  split at h
  · cases h
  · rename_i h1
    rw [if_neg h1]
    split at h
    · cases h
    · rename_i h2
      rw [if_neg h2]
      refine ⟨?_, h1, by omega⟩
      split at h
      · rename_i h3
        rw [dif_pos h3]
        split at h
        · cases h
        · rename_i h4; rw [if_neg h4]
      · rename_i h3; rw [dif_neg h3]
end Go.Proofs.YtbcadlocldplfaaDoor
namespace Go.Proofs.YtbcadlocldplfaaDoor
open Go.RowKit
theorem letter_any (c : UInt8) (w : World) : Calls Tryd.prog 38 #[.int .u8 (c.toNat : Nat)] w fun e w' => e = .returned (.bool (lowB c)) ∧ w' = w := by
  have HC : Hid (lowB c = (decide (97 ≤ c.toNat) && decide (c.toNat ≤ 122))) := rfl
  have h1 : c.toNat < 256 := UInt8.toNat_lt _
  generalize c.toNat = x at *
  by_cases ha : 97 ≤ x
  · by_cases hb : x ≤ 122
    · go_enter Tryd.func38, Tryd.ntmps38
      go_wp2_with fail
      go_ret
      exact ⟨by rw [HC.out]; simp [ha, hb]; omega, rfl⟩
    · go_enter Tryd.func38, Tryd.ntmps38
      go_wp2_with fail
      go_ret
      exact ⟨by rw [HC.out]; simp [ha, hb]; omega, rfl⟩
  · go_enter Tryd.func38, Tryd.ntmps38
    go_wp2_with fail
    go_ret
    exact ⟨by rw [HC.out]; simp [ha], rfl⟩
theorem digit_any (c : UInt8) (w : World) : Calls Tryd.prog 40 #[.int .u8 (c.toNat : Nat)] w fun e w' => e = .returned (.bool (digB c)) ∧ w' = w := by
  have HC : Hid (digB c = (decide (48 ≤ c.toNat) && decide (c.toNat ≤ 57))) := rfl
  have h1 : c.toNat < 256 := UInt8.toNat_lt _
  generalize c.toNat = x at *
  by_cases ha : 48 ≤ x
  · by_cases hb : x ≤ 57
    · go_enter Tryd.func40, Tryd.ntmps40
      go_wp2_with fail
      go_ret
      exact ⟨by rw [HC.out]; simp [ha, hb]; omega, rfl⟩
    · go_enter Tryd.func40, Tryd.ntmps40
      go_wp2_with fail
      go_ret
      exact ⟨by rw [HC.out]; simp [ha, hb]; omega, rfl⟩
  · go_enter Tryd.func40, Tryd.ntmps40
    go_wp2_with fail
    go_ret
    exact ⟨by rw [HC.out]; simp [ha], rfl⟩
theorem beq_decide (x : Nat) : ((x : Int) == 95) = decide (x = 95) := by
  rw [Bool.eq_iff_iff]; simp; omega
theorem inner_any (c : UInt8) (w : World) : Calls Tryd.prog 39 #[.int .u8 (c.toNat : Nat)] w fun e w' => e = .returned (.bool (innB c)) ∧ w' = w := by
  have HL := Lib.hid (letter_any c w)
  have HD := Lib.hid (digit_any c w)
  have HC : Hid (innB c = (lowB c || digB c || decide (c.toNat = 95))) := rfl
  have h1 : c.toNat < 256 := UInt8.toNat_lt _
  generalize c.toNat = x at *
  generalize lowB c = p at *
  generalize digB c = q at *
  go_enter Tryd.func39, Tryd.ntmps39
  go_wp2_with fail
  refine HL.out.mono ?_
  rintro e w2 ⟨rfl, rfl⟩
  cases p
  · go_wp2_with fail
    refine HD.out.mono ?_
    rintro e w2 ⟨rfl, rfl⟩
    cases q
    · go_wp2_with fail
      go_ret
      refine ⟨by rw [HC.out, beq_decide x]; simp, rfl⟩
    · go_wp2_with fail
      go_ret
      exact ⟨by rw [HC.out]; rfl, rfl⟩
  · go_wp2_with fail
    go_ret
    exact ⟨by rw [HC.out]; rfl, rfl⟩
theorem st_get {st : ByteArray} {s : List UInt8} (hst : st = ⟨s.toArray⟩) {k : Nat} (h : k < st.size) (h2 : k < s.length) : st[k] = s[k] := by
  subst hst; rfl
set_option maxHeartbeats 4000000 in
theorem number_any (s : List UInt8) (i : Nat) (hs : s.length ≤ 100000) (hi : i ≤ s.length) (w : World) :
    Calls Tryd.prog 41 #[.string ⟨s.toArray⟩, .int .i64 (i : Nat)] w fun e w' => e = .returned (.tuple #[.int .i64 (numL s i).1, .int .i64 (numL s i).2.1, .int .i64 (numL s i).2.2.1, .int .i64 (numL s i).2.2.2]) ∧ w' = w := by
  obtain ⟨st, hst⟩ : ∃ st : ByteArray, st = ⟨s.toArray⟩ := ⟨_, rfl⟩
  have hsz : st.size = s.length := by rw [hst]; rfl
  obtain ⟨n, hn⟩ : ∃ n, n = s.length := ⟨_, rfl⟩
  obtain ⟨E, hE⟩ : ∃ E, E = scan digB s i := ⟨_, rfl⟩
  have hEn : E ≤ n := by rw [hE, hn]; exact scan_le _ _ hi
  rw [← hst]
  rw [← hn] at hsz hs hi
  have HST := Lib.hid hst
  have HN := Lib.hid hn
  have HE := Lib.hid hE
  have HEN := Lib.hid hEn
  clear hst hn hE hEn
  go_enter Tryd.func41, Tryd.ntmps41
  go_wp2_with fail
  go_loopw [8, 9] (fun s8 s9 wr => wr = w ∧ ∃ k x : Nat, s8 = .int .u64 x ∧ s9 = .int .i64 k ∧ i ≤ k ∧ k ≤ n ∧ x = val (cutL s i k) ∧ x ≤ 9223372036854775807 ∧ scan digB s k = E ∧ (i + 1 < k → s[i]? ≠ some 48)) (fun _ s9 _ => n - (intOf s9).toNat)
  case atStart => exact ⟨rfl, i, 0, rfl, rfl, Nat.le_refl _, hi, by rw [cut_self]; rfl, by omega, HE.out.symm, by omega⟩
  case round =>
    obtain ⟨rfl, k, x, rfl, rfl, hik, hkn, hx, hxm, hsc, h48⟩ := hrel
    have HX := Lib.hid (And.intro hx (And.intro hsc h48))
    clear hx hsc h48
    by_cases hlt : k < n
    · have hks : k < s.length := by rw [← HN.out]; exact hlt
      obtain ⟨ch, hch⟩ : ∃ c, c = s[k] := ⟨_, rfl⟩
      have hkst : k < st.size := by omega
      have hg : st[k] = ch := by rw [hch]; exact st_get HST.out hkst hks
      have HCH : Hid (s[k]? = some ch) := by rw [hch]; exact List.getElem?_eq_getElem hks
      have HSP : Hid (digB ch = false → E = k) := fun hd => by rw [← HX.out.2.1]; exact scan_stop _ _ hks (by rw [← hch]; exact hd)
      have HST2 : Hid (digB ch = true → scan digB s (k + 1) = E) := fun hd => by rw [← HX.out.2.1]; exact (scan_step _ _ hks (by rw [← hch]; exact hd)).symm
      have HNX : Hid (E = k → numL s i = if innB ch then (0, 0, k, 9) else (x, k, 0, 0)) := fun he => by
        have h := numL_next (HE.out.symm.trans he) HX.out.2.2 (by rw [← HX.out.1]; exact hxm) hks
        rw [h, hch, HX.out.1]
      clear hch hks
      go_wp2_with fail
      refine (digit_any ch wr).mono ?_
      rintro e w2 ⟨rfl, hw2⟩
      rw [hw2]
      clear hw2 w2
      cases hd : digB ch
      · have HR := Lib.hid (HNX.out (HSP.out hd))
        clear hd
        go_wp2_with fail
        refine (inner_any ch wr).mono ?_
        rintro e w2 ⟨rfl, hw2⟩
        rw [hw2]
        clear hw2 w2
        cases hin : innB ch
        · have HR2 : Hid (numL s i = (x, k, 0, 0)) := by rw [HR.out, hin]; rfl
          clear hin
          go_wp2_with fail
          (try simp only [Exit.inBlock, Exit.then]); refine bodyPost_ret (results_tmp4 rfl _ _ _) rfl ?_
          exact ⟨by rw [HR2.out]; rfl, rfl⟩
        · have HR2 : Hid (numL s i = (0, 0, k, 9)) := by rw [HR.out, hin]; rfl
          clear hin
          go_wp2_with fail
          (try simp only [Exit.inBlock, Exit.then]); refine bodyPost_ret (results_tmp4 rfl _ _ _) rfl ?_
          exact ⟨by rw [HR2.out]; rfl, rfl⟩
      · have hd2 : 48 ≤ ch.toNat ∧ ch.toNat ≤ 57 := by unfold digB at hd; simpa using hd
        obtain ⟨hd3, hd4⟩ := hd2
        have HS := Lib.hid (HST2.out hd)
        clear hd HSP HST2 HNX
        obtain ⟨cv, hcv⟩ : ∃ v, v = ch.toNat := ⟨_, rfl⟩
        have HCV := Lib.hid hcv
        rw [← hcv] at hd3 hd4
        have hg2 : st[k].toNat = cv := by rw [hg, hcv]
        clear hcv hg
        have HVN : Hid (val (cutL s i (k + 1)) = 10 * x + (cv - 48)) := by
          have hks : k < s.length := by rw [← HN.out]; exact hlt
          rw [cut_next s hik hks, val_snoc, ← HX.out.1]
          have h := HCH.out
          rw [List.getElem?_eq_getElem hks] at h
          injection h with h
          rw [h, HCV.out]
          exact rfl
        have hkE : k + 1 ≤ E := by rw [← HS.out]; exact scan_ge _ _ _
        have HVM : Hid (10 * x + (cv - 48) ≤ val (cutL s i E)) := by
          rw [← HVN.out, cut_more s (i := i) (k := k + 1) (e := E) (by omega) hkE (by rw [← HN.out]; exact HEN.out)]
          exact val_mono _ _
        by_cases hk1 : k = i + 1
        · subst hk1
          have his : i < s.length := by rw [← HN.out]; omega
          have hist : i < st.size := by omega
          obtain ⟨ci, hci⟩ : ∃ c, c = s[i].toNat := ⟨_, rfl⟩
          have hgi : st[i].toNat = ci := by rw [hci, st_get HST.out hist his]
          have HCI : Hid (s[i]? = some 48 ↔ ci = 48) := by
            rw [List.getElem?_eq_getElem his, hci]
            constructor
            · intro h; injection h with h; rw [h]; rfl
            · intro h; exact congrArg some (UInt8.toNat_inj.1 (by rw [h]; rfl))
          clear hci his
          by_cases h48 : ci = 48
          · have HR := Lib.hid (numL_zero (HCI.out.2 h48) (by rw [← HE.out]; omega))
            clear hkE
            have hb48 : ((ci : Int) == 48) = true := by rw [h48]; rfl
            clear h48
            go_wp2_with fail
            (try simp only [Exit.inBlock, Exit.then]); refine bodyPost_ret (results_tmp4 rfl _ _ _) rfl ?_
            exact ⟨by rw [HR.out]; rfl, rfl⟩
          · have H48 : Hid (s[i]? ≠ some 48) := fun h => h48 (HCI.out.1 h)
            have hb48 : ((ci : Int) == 48) = false := by rw [beq_eq_false_iff_ne]; omega
            clear h48 hkE
            have HNL : Hid (9223372036854775807 < 10 * x + (cv - 48) → numL s i = (0, 0, i, 2)) := fun hv => numL_long (fun hh => H48.out hh.1) (by rw [← HE.out]; exact Nat.lt_of_lt_of_le hv HVM.out)
            obtain ⟨d, hdd⟩ : ∃ d, d = cv - 48 := ⟨_, rfl⟩
            have HDD := Lib.hid hdd
            have hdz : (cv : Int) - 48 = (d : Int) := by omega
            have hd9 : d ≤ 9 := by omega
            rw [← hdd] at HNL
            clear hdd
            by_cases hov : (9223372036854775807 - d) / 10 < x
            · have HR := Lib.hid (HNL.out (by omega))
              have hov2 : decide ((9223372036854775807 - (d : Int)) / 10 < (x : Int)) = true := decide_eq_true (by omega)
              clear hov
              go_wp2_with fail
              (try simp only [Exit.inBlock, Exit.then]); refine bodyPost_ret (results_tmp4 rfl _ _ _) rfl ?_
              exact ⟨by rw [HR.out]; rfl, rfl⟩
            · have hov2 : decide ((9223372036854775807 - (d : Int)) / 10 < (x : Int)) = false := decide_eq_false (by omega)
              have hnx : 10 * x + d ≤ 9223372036854775807 := by omega
              clear hov
              go_wp2_with fail
              go_roundw
              case rel => exact ⟨trivial, (i + 1) + 1, 10 * x + d, congrArg (Value.int .u64) (by omega), by go_num, by omega, by omega, by rw [HVN.out, HDD.out], hnx, HS.out, fun _ => H48.out⟩
              case measure => simp [intOf]; omega
        · by_cases hki : k = i
          · subst hki
            have hx0 : x = 0 := by rw [HX.out.1, cut_self]; rfl
            clear hkE
            subst hx0
            have hov2 : decide ((9223372036854775807 - ((cv : Int) - 48)) / 10 < ((0 : Nat) : Int)) = false := decide_eq_false (by omega)
            go_wp2_with fail
            go_roundw
            case rel => exact ⟨trivial, k + 1, cv - 48, congrArg (Value.int .u64) (by omega), by go_num, by omega, by omega, by rw [HVN.out]; omega, by omega, HS.out, fun h => absurd h (by omega)⟩
            case measure => simp [intOf]; omega
          · have H48 : Hid (s[i]? ≠ some 48) := HX.out.2.2 (by omega)
            clear hkE
            have HNL : Hid (9223372036854775807 < 10 * x + (cv - 48) → numL s i = (0, 0, i, 2)) := fun hv => numL_long (fun hh => H48.out hh.1) (by rw [← HE.out]; exact Nat.lt_of_lt_of_le hv HVM.out)
            obtain ⟨d, hdd⟩ : ∃ d, d = cv - 48 := ⟨_, rfl⟩
            have HDD := Lib.hid hdd
            have hdz : (cv : Int) - 48 = (d : Int) := by omega
            have hd9 : d ≤ 9 := by omega
            rw [← hdd] at HNL
            clear hdd
            by_cases hov : (9223372036854775807 - d) / 10 < x
            · have HR := Lib.hid (HNL.out (by omega))
              have hov2 : decide ((9223372036854775807 - (d : Int)) / 10 < (x : Int)) = true := decide_eq_true (by omega)
              clear hov
              go_wp2_with fail
              (try simp only [Exit.inBlock, Exit.then]); refine bodyPost_ret (results_tmp4 rfl _ _ _) rfl ?_
              exact ⟨by rw [HR.out]; rfl, rfl⟩
            · have hov2 : decide ((9223372036854775807 - (d : Int)) / 10 < (x : Int)) = false := decide_eq_false (by omega)
              have hnx : 10 * x + d ≤ 9223372036854775807 := by omega
              clear hov
              go_wp2_with fail
              go_roundw
              case rel => exact ⟨trivial, k + 1, 10 * x + d, congrArg (Value.int .u64) (by omega), by go_num, by omega, by omega, by rw [HVN.out, HDD.out], hnx, HS.out, fun _ => H48.out⟩
              case measure => simp [intOf]; omega
    · have hkn2 : k = n := by omega
      have HR := Lib.hid (numL_end (s := s) (i := i) (k := k) (by rw [← HE.out, ← HX.out.2.1]; exact scan_end _ _ (by rw [← HN.out]; omega)) HX.out.2.2 (by rw [← HX.out.1]; exact hxm) (by rw [← HN.out]; omega))
      go_wp2_with fail
      (try simp only [Exit.inBlock, Exit.then]); refine bodyPost_ret (results_tmp4 rfl _ _ _) rfl ?_
      exact ⟨by rw [HR.out, ← HX.out.1]; rfl, rfl⟩
set_option maxRecDepth 100000 in
theorem idx22 (s : ByteArray) (c : Int) (w : World) : Calls Tryd.prog 87 #[.string s, .int .u8 c] w fun e w' => e = .returned (.int .i64 (Lib.indexByte s.data.toList c.toNat.toUInt8)) ∧ w' = w := by
  go_enter Tryd.func87, Tryd.ntmps87
  go_wp2_with fail
  rw [run_callFunc_extern Tryd.func111 (by kernel_rfl) (by kernel_rfl) (by kernel_rfl) (e := Extern.BytealgIndexByte.indexByte) (by kernel_rfl), Lib.run_indexByteString]
  simp only [Result.andThen]
  rw [Oper.upon_value]
  go_wp2_with fail
  go_ret
  exact ⟨rfl, rfl⟩
theorem idx19 (s : ByteArray) (c : Int) (w : World) : Calls Tryd.prog 43 #[.string s, .int .u8 c] w fun e w' => e = .returned (.int .i64 (Lib.indexByte s.data.toList c.toNat.toUInt8)) ∧ w' = w := by
  go_enter Tryd.func43, Tryd.ntmps43
  go_wp2_with fail
  refine (idx22 s c w).mono ?_
  rintro e w2 ⟨rfl, rfl⟩
  go_wp2_with fail
  go_ret
  exact ⟨rfl, rfl⟩
theorem Tryd.info5 : (Tryd.prog.info? 5).map (fun i => (i.zero, i.size, i.bytes)) = some (some (.int .u8 0), 1, 1) := by kernel_rfl
abbrev hexs : List UInt8 := [48, 49, 50, 51, 52, 53, 54, 55, 56, 57, 97, 98, 99, 100, 101, 102]
theorem hex_idx0 : ∀ n : Fin 256, Lib.indexByte hexs (UInt8.ofNat n.1) = ((hexD (UInt8.ofNat n.1)).elim (-1) fun d => (d : Int)) := by decide +kernel
theorem hex_idx (c : UInt8) : Lib.indexByte hexs c = ((hexD c).elim (-1) fun d => (d : Int)) := by
  have h := hex_idx0 ⟨c.toNat, UInt8.toNat_lt c⟩
  have e : UInt8.ofNat c.toNat = c := UInt8.ofNat_toNat
  rw [e] at h
  exact h
theorem hex_any (c : UInt8) (w : World) : Calls Tryd.prog 43 #[.string ⟨hexs.toArray⟩, .int .u8 (c.toNat : Nat)] w fun e w' => e = .returned (.int .i64 ((hexD c).elim (-1) fun d => (d : Int))) ∧ w' = w := by
  have h := idx19 ⟨hexs.toArray⟩ (c.toNat : Nat) w
  have e : ((c.toNat : Nat) : Int).toNat.toUInt8 = c := by rw [Int.toNat_natCast]; exact UInt8.ofNat_toNat
  have e2 : (⟨hexs.toArray⟩ : ByteArray).data.toList = hexs := rfl
  rw [e, e2, hex_idx] at h
  exact h
def TextPost (w : World) (R : List UInt8 × Nat × Nat × Nat) (e : Ending) (w' : World) : Prop :=
  ∃ st : ByteArray, e = .returned (.tuple #[.string st, .int .i64 (R.2.1 : Nat), .int .i64 (R.2.2.1 : Nat), .int .i64 (R.2.2.2 : Nat)]) ∧ st.data.toList = R.1 ∧ Below w.heap.size w w'
set_option maxRecDepth 100000 in
set_option maxHeartbeats 8000000 in
theorem text_any (s : List UInt8) (i : Nat) (hs : s.length ≤ 100000) (hi : i < s.length) (w : World) :
    Calls Tryd.prog 42 #[.string ⟨s.toArray⟩, .int .i64 (i : Nat)] w (TextPost w (textL s i (i + 1) [])) := by
  obtain ⟨i0, hi0, hz0, hz1, hz2⟩ := info_parts Tryd.info5
  have HI := Lib.hid (And.intro hi0 (And.intro hz0 (And.intro hz1 hz2)))
  clear hi0 hz0 hz1 hz2
  obtain ⟨st, hst⟩ : ∃ st : ByteArray, st = ⟨s.toArray⟩ := ⟨_, rfl⟩
  have hsz : st.size = s.length := by rw [hst]; rfl
  obtain ⟨n, hn⟩ : ∃ n, n = s.length := ⟨_, rfl⟩
  obtain ⟨R, hR⟩ : ∃ R, R = textL s i (i + 1) [] := ⟨_, rfl⟩
  rw [← hst, ← hR]
  rw [← hn] at hsz hs hi
  have HST := Lib.hid hst
  have HN := Lib.hid hn
  have HR0 := Lib.hid hR
  clear hst hn hR
  go_enter Tryd.func42, Tryd.ntmps42
  go_wp2_with fail
  go_loopw [8, 9] (fun s8 s9 wr => ∃ (k : Nat) (b : List UInt8) (A : Option Addr) (cap : Nat), s9 = .int .i64 k ∧ s8 = .slice A b.length cap ∧ i < k ∧ k ≤ n ∧ b.length ≤ 4095 ∧ textL s i k b = R ∧ wr.ownsRow w.heap.size 5 1 (.slice A b.length cap) b.length (bcells b) ∧ Below w.heap.size w wr) (fun _ s9 _ => n - (intOf s9).toNat)
  case atStart => exact ⟨i + 1, [], none, 0, by go_num, rfl, by omega, by omega, by simp, HR0.out.symm, World.ownsRow_nil _ _ _ _, Below.refl _ _⟩
  case round =>
    obtain ⟨k, b, A, cap, rfl, rfl, hik, hkn, hbl, hR, ho, hb⟩ := hrel
    have HR := Lib.hid hR
    have HB := Lib.hid hb
    obtain ⟨m, hm⟩ : ∃ m, m = b.length := ⟨_, rfl⟩
    rw [← hm] at ho hbl ⊢
    have HO := Lib.hid ho
    have HM := Lib.hid hm
    have HSTEP := Lib.hid (hR.symm.trans (textL_step s i k b))
    clear hR hb ho hm
    by_cases hlt : k < n
    · have hks : k < s.length := by rw [← HN.out]; exact hlt
      obtain ⟨ch, hch⟩ : ∃ c, c = s[k] := ⟨_, rfl⟩
      have hkst : k < st.size := by omega
      have hg : st[k] = ch := by rw [hch]; exact st_get HST.out hkst hks
      have hch2 : s[k]? = some ch := by rw [hch]; exact List.getElem?_eq_getElem hks
      have HS1 := Lib.hid (show R = if ch = 34 then (b, k + 1, 0, 0) else if ch.toNat < 32 ∨ 126 < ch.toNat then ([], 0, k, 9) else
          match charL s ch k with
          | .inl (q, e) => ([], 0, q, e)
          | .inr (x, nx) => if b.length = 4095 then ([], 0, i, 2) else textL s i nx (b ++ [UInt8.ofNat x]) by have h := HSTEP.out; rw [hch2] at h; exact h)
      clear hch hch2 hks HSTEP
      have hcl : ch.toNat < 256 := UInt8.toNat_lt _
      have HE : Hid (∀ q : UInt8, ch = q ↔ ch.toNat = q.toNat) := fun q => ⟨fun h => by rw [h], fun h => UInt8.toNat_inj.1 h⟩
      obtain ⟨cv, hcv⟩ : ∃ v, v = ch.toNat := ⟨_, rfl⟩
      have hg2 : st[k].toNat = cv := by rw [hg, hcv]
      have HCV := Lib.hid hcv
      rw [← hcv] at hcl
      clear hg hcv
      by_cases h34 : cv = 34
      · have HR2 : Hid (R = (b, k + 1, 0, 0)) := by rw [HS1.out, if_pos ((HE.out 34).2 (HCV.out.symm.trans h34))]; exact rfl
        have hstr := run_str_own (P := Tryd.prog) wr 73 9 5 w.heap.size (.slice A m cap) m b Tryd.underlying73 Tryd.underlying5 Tryd.underlying9 HM.out.symm HO.out
        have hb34 : ((cv : Int) != 34) = false := by rw [h34]; rfl
        clear h34
        go_wp2_with fail
        (try simp only [Exit.inBlock, Exit.then]); refine bodyPost_ret (results_tmp4 rfl _ _ _) rfl ?_
        exact ⟨_, by rw [HR2.out]; rfl, by rw [HR2.out], HB.out⟩
      · have hb34 : ((cv : Int) != 34) = true := by rw [bne_iff_ne]; omega
        have HS2 : Hid (R = if ch.toNat < 32 ∨ 126 < ch.toNat then ([], 0, k, 9) else
          match charL s ch k with
          | .inl (q, e) => ([], 0, q, e)
          | .inr (x, nx) => if b.length = 4095 then ([], 0, i, 2) else textL s i nx (b ++ [UInt8.ofNat x])) := by rw [HS1.out, if_neg (fun h => h34 (HCV.out.trans ((HE.out 34).1 h)))]; exact rfl
        clear h34 HS1
        by_cases hlo : cv < 32
        · have HR2 : Hid (R = ([], 0, k, 9)) := by rw [HS2.out, if_pos (by rw [← HCV.out]; omega)]; exact rfl
          go_wp2_with fail
          (try simp only [Exit.inBlock, Exit.then]); refine bodyPost_ret (results_tmp4 rfl _ _ _) rfl ?_
          exact ⟨_, by rw [HR2.out]; rfl, by rw [HR2.out], HB.out⟩
        · by_cases hup : 126 < cv
          · have HR2 : Hid (R = ([], 0, k, 9)) := by rw [HS2.out, if_pos (by rw [← HCV.out]; omega)]; exact rfl
            go_wp2_with fail
            (try simp only [Exit.inBlock, Exit.then]); refine bodyPost_ret (results_tmp4 rfl _ _ _) rfl ?_
            exact ⟨_, by rw [HR2.out]; rfl, by rw [HR2.out], HB.out⟩
          · have HS3 : Hid (R = match charL s ch k with
              | .inl (q, e) => ([], 0, q, e)
              | .inr (x, nx) => if b.length = 4095 then ([], 0, i, 2) else textL s i nx (b ++ [UInt8.ofNat x])) := by rw [HS2.out, if_neg (by rw [← HCV.out]; omega)]; exact rfl
            clear HS2
            by_cases h92 : cv = 92
            · have hb92 : ((cv : Int) == 92) = true := by rw [h92]; rfl
              have HS4 : Hid (R = match escL s (k + 1) with
                | .inl (q, e) => ([], 0, q, e)
                | .inr (x, nx) => if b.length = 4095 then ([], 0, i, 2) else textL s i nx (b ++ [UInt8.ofNat x])) := by
                have h := HS3.out
                unfold charL at h
                rw [if_pos ((HE.out 92).2 (HCV.out.symm.trans h92))] at h
                exact h
              clear HS3 h92
              by_cases hk1 : k + 1 = n
              · have HR2 : Hid (R = ([], 0, n, 4)) := by
                  have h := HS4.out
                  unfold escL at h
                  rw [List.getElem?_eq_none (by rw [← HN.out]; omega)] at h
                  rw [h, HN.out]; exact rfl
                have hbk : ((k : Int) + 1 == (n : Int)) = true := by rw [beq_iff_eq]; omega
                have hge : n ≤ k + 1 := by omega
                clear hk1
                go_wp2_with fail
                (try simp only [Exit.inBlock, Exit.then]); refine bodyPost_ret (results_tmp4 rfl _ _ _) rfl ?_
                exact ⟨_, by rw [HR2.out]; rfl, by rw [HR2.out], HB.out⟩
              · have hk2 : k + 1 < n := by omega
                have hbk : ((k : Int) + 1 == (n : Int)) = false := by rw [beq_eq_false_iff_ne]; omega
                clear hk1
                have hks : k + 1 < s.length := by rw [← HN.out]; exact hk2
                obtain ⟨c1, hc1⟩ : ∃ c, c = s[k + 1] := ⟨_, rfl⟩
                have hkst1 : k + 1 < st.size := by omega
                have hg1 : st[k + 1] = c1 := by rw [hc1]; exact st_get HST.out hkst1 hks
                have HC1 : Hid (s[k + 1]? = some c1) := by rw [hc1]; exact List.getElem?_eq_getElem hks
                have HS5 : Hid (R = match (if c1 = 34 ∨ c1 = 92 then Sum.inr (c1.toNat, k + 1 + 1) else if c1 = 110 then .inr (10, k + 1 + 1) else if c1 = 120 then hex2 s (k + 1 + 1) else .inl (k + 1, 9) : (Nat × Nat) ⊕ (Nat × Nat)) with
                  | .inl (q, e) => ([], 0, q, e)
                  | .inr (x, nx) => if b.length = 4095 then ([], 0, i, 2) else textL s i nx (b ++ [UInt8.ofNat x])) := by
                  have h := HS4.out
                  unfold escL at h
                  rw [HC1.out] at h
                  exact h
                clear HS4
                have HE1 : Hid (∀ q : UInt8, c1 = q ↔ c1.toNat = q.toNat) := fun q => ⟨fun h => by rw [h], fun h => UInt8.toNat_inj.1 h⟩
                have hcl1 : c1.toNat < 256 := UInt8.toNat_lt _
                obtain ⟨cw, hcw⟩ : ∃ v, v = c1.toNat := ⟨_, rfl⟩
                have hgw : st[k + 1].toNat = cw := by rw [hg1, hcw]
                have HCW := Lib.hid hcw
                rw [← hcw] at hcl1
                clear hg1 hcw hc1 hks
                by_cases h1 : cw = 34
                · have hb1 : ((cw : Int) == 34) = true := by rw [h1]; rfl
                  have HS4 : Hid (R = if b.length = 4095 then ([], 0, i, 2) else textL s i (k + 1 + 1) (b ++ [UInt8.ofNat cw])) := by
                    have h := HS5.out
                    rw [if_pos (.inl ((HE1.out 34).2 (HCW.out.symm.trans h1))), ← HCW.out] at h
                    exact h
                  clear HS5 h1
                  by_cases hmx : m = 4095
                  · have HR2 : Hid (R = ([], 0, i, 2)) := by rw [HS4.out, if_pos (HM.out.symm.trans hmx)]; exact rfl
                    have hbm : ((m : Int) == 4095) = true := by rw [hmx]; rfl
                    clear hmx
                    go_wp2_with fail
                    (try simp only [Exit.inBlock, Exit.then]); refine bodyPost_ret (results_tmp4 rfl _ _ _) rfl ?_
                    exact ⟨_, by rw [HR2.out]; rfl, by rw [HR2.out], HB.out⟩
                  · have HR2 : Hid (R = textL s i (k + 1 + 1) (b ++ [UInt8.ofNat cw])) := by rw [HS4.out, if_neg (fun h => hmx (HM.out.trans h))]; exact rfl
                    have hbm : ((m : Int) == 4095) = false := by rw [beq_eq_false_iff_ne]; omega
                    have HX2 : Hid (bcells (b ++ [UInt8.ofNat cw]) = bcells b ++ [.int .u8 (cw : Nat)]) := by rw [bcells_append]; exact congrArg (fun z => bcells b ++ [Value.int .u8 ((z : Nat) : Int)]) (by first | rfl | (rw [UInt8.toNat_ofNat']; exact Nat.mod_eq_of_lt (by omega)))
                    obtain ⟨hi0, hz0, hz1, hz2⟩ := HI.out
                    go_wp2_with (at_builtin; refine wpList_append_own _ rfl (.tmp 86) (.tmp 88) 73 rfl w.heap.size 5 i0 (.int .u8 0) 1 1 Tryd.underlying73 hi0 hz0 hz1 hz2 rfl (by decide) (.slice A m cap) m (bcells b) rfl (HO.out.alloc _) ⟨wr.heap.size, 0, none⟩ 1 1 [.int .u8 (cw : Nat)] rfl rfl (cell_one_new _ _ _) (by intro u hu; rw [List.mem_singleton] at hu; subst hu; rfl) (by unfold maxLen; omega) (by omega) (by have := HB.out.size; simp; omega) ?_; intro v3 w3 ho3 hg3 _; obtain ⟨A3, c3, rfl, _⟩ := own_form ho3; have HO3 := Lib.hid ho3; have HG3 := Lib.hid hg3; clear ho3 hg3)
                    have HL := Lib.hid (show (b ++ [UInt8.ofNat cw]).length = m + 1 by rw [List.length_append, ← HM.out]; rfl)
                    go_wp2_with fail
                    go_roundw
                    case rel =>
                      refine ⟨(k + 1 + 1), b ++ [UInt8.ofNat cw], A3, c3, by go_num, by rw [HL.out], by omega, by omega, by rw [HL.out]; omega, HR2.out.symm, by rw [HL.out, HX2.out]; exact HO3.out, ?_⟩
                      exact (HB.out.alloc HB.out.size _).grown HG3.out (by have := HB.out.size; simp; omega) (fun g hg => (World.ownsRow.lt HO.out g hg).1)
                    case measure => simp [intOf]; omega
                · have hb1 : ((cw : Int) == 34) = false := by rw [beq_eq_false_iff_ne]; omega
                  by_cases h2 : cw = 92
                  · have hb2 : ((cw : Int) == 92) = true := by rw [h2]; rfl
                    have HS4 : Hid (R = if b.length = 4095 then ([], 0, i, 2) else textL s i (k + 1 + 1) (b ++ [UInt8.ofNat cw])) := by
                      have h := HS5.out
                      rw [if_pos (.inr ((HE1.out 92).2 (HCW.out.symm.trans h2))), ← HCW.out] at h
                      exact h
                    clear HS5 h1 h2
                    by_cases hmx : m = 4095
                    · have HR2 : Hid (R = ([], 0, i, 2)) := by rw [HS4.out, if_pos (HM.out.symm.trans hmx)]; exact rfl
                      have hbm : ((m : Int) == 4095) = true := by rw [hmx]; rfl
                      clear hmx
                      go_wp2_with fail
                      (try simp only [Exit.inBlock, Exit.then]); refine bodyPost_ret (results_tmp4 rfl _ _ _) rfl ?_
                      exact ⟨_, by rw [HR2.out]; rfl, by rw [HR2.out], HB.out⟩
                    · have HR2 : Hid (R = textL s i (k + 1 + 1) (b ++ [UInt8.ofNat cw])) := by rw [HS4.out, if_neg (fun h => hmx (HM.out.trans h))]; exact rfl
                      have hbm : ((m : Int) == 4095) = false := by rw [beq_eq_false_iff_ne]; omega
                      have HX2 : Hid (bcells (b ++ [UInt8.ofNat cw]) = bcells b ++ [.int .u8 (cw : Nat)]) := by rw [bcells_append]; exact congrArg (fun z => bcells b ++ [Value.int .u8 ((z : Nat) : Int)]) (by first | rfl | (rw [UInt8.toNat_ofNat']; exact Nat.mod_eq_of_lt (by omega)))
                      obtain ⟨hi0, hz0, hz1, hz2⟩ := HI.out
                      go_wp2_with (at_builtin; refine wpList_append_own _ rfl (.tmp 86) (.tmp 88) 73 rfl w.heap.size 5 i0 (.int .u8 0) 1 1 Tryd.underlying73 hi0 hz0 hz1 hz2 rfl (by decide) (.slice A m cap) m (bcells b) rfl (HO.out.alloc _) ⟨wr.heap.size, 0, none⟩ 1 1 [.int .u8 (cw : Nat)] rfl rfl (cell_one_new _ _ _) (by intro u hu; rw [List.mem_singleton] at hu; subst hu; rfl) (by unfold maxLen; omega) (by omega) (by have := HB.out.size; simp; omega) ?_; intro v3 w3 ho3 hg3 _; obtain ⟨A3, c3, rfl, _⟩ := own_form ho3; have HO3 := Lib.hid ho3; have HG3 := Lib.hid hg3; clear ho3 hg3)
                      have HL := Lib.hid (show (b ++ [UInt8.ofNat cw]).length = m + 1 by rw [List.length_append, ← HM.out]; rfl)
                      go_wp2_with fail
                      go_roundw
                      case rel =>
                        refine ⟨(k + 1 + 1), b ++ [UInt8.ofNat cw], A3, c3, by go_num, by rw [HL.out], by omega, by omega, by rw [HL.out]; omega, HR2.out.symm, by rw [HL.out, HX2.out]; exact HO3.out, ?_⟩
                        exact (HB.out.alloc HB.out.size _).grown HG3.out (by have := HB.out.size; simp; omega) (fun g hg => (World.ownsRow.lt HO.out g hg).1)
                      case measure => simp [intOf]; omega
                  · have hb2 : ((cw : Int) == 92) = false := by rw [beq_eq_false_iff_ne]; omega
                    have HS6 : Hid (R = match (if c1 = 110 then Sum.inr (10, k + 1 + 1) else if c1 = 120 then hex2 s (k + 1 + 1) else .inl (k + 1, 9) : (Nat × Nat) ⊕ (Nat × Nat)) with
                      | .inl (q, e) => ([], 0, q, e)
                      | .inr (x, nx) => if b.length = 4095 then ([], 0, i, 2) else textL s i nx (b ++ [UInt8.ofNat x])) := by
                      have h := HS5.out
                      rw [if_neg (fun h => h.elim (fun h => h1 (HCW.out.trans ((HE1.out 34).1 h))) (fun h => h2 (HCW.out.trans ((HE1.out 92).1 h))))] at h
                      exact h
                    clear HS5 h1 h2
                    by_cases h3 : cw = 110
                    · have hb3 : ((cw : Int) == 110) = true := by rw [h3]; rfl
                      have HS4 : Hid (R = if b.length = 4095 then ([], 0, i, 2) else textL s i (k + 1 + 1) (b ++ [UInt8.ofNat 10])) := by
                        have h := HS6.out
                        rw [if_pos ((HE1.out 110).2 (HCW.out.symm.trans h3))] at h
                        exact h
                      clear HS6 h3
                      by_cases hmx : m = 4095
                      · have HR2 : Hid (R = ([], 0, i, 2)) := by rw [HS4.out, if_pos (HM.out.symm.trans hmx)]; exact rfl
                        have hbm : ((m : Int) == 4095) = true := by rw [hmx]; rfl
                        clear hmx
                        go_wp2_with fail
                        (try simp only [Exit.inBlock, Exit.then]); refine bodyPost_ret (results_tmp4 rfl _ _ _) rfl ?_
                        exact ⟨_, by rw [HR2.out]; rfl, by rw [HR2.out], HB.out⟩
                      · have HR2 : Hid (R = textL s i (k + 1 + 1) (b ++ [UInt8.ofNat 10])) := by rw [HS4.out, if_neg (fun h => hmx (HM.out.trans h))]; exact rfl
                        have hbm : ((m : Int) == 4095) = false := by rw [beq_eq_false_iff_ne]; omega
                        have HX2 : Hid (bcells (b ++ [UInt8.ofNat 10]) = bcells b ++ [.int .u8 10]) := by rw [bcells_append]; exact congrArg (fun z => bcells b ++ [Value.int .u8 ((z : Nat) : Int)]) (by first | rfl | (rw [UInt8.toNat_ofNat']; exact Nat.mod_eq_of_lt (by omega)))
                        obtain ⟨hi0, hz0, hz1, hz2⟩ := HI.out
                        go_wp2_with (at_builtin; refine wpList_append_own _ rfl (.tmp 86) (.tmp 88) 73 rfl w.heap.size 5 i0 (.int .u8 0) 1 1 Tryd.underlying73 hi0 hz0 hz1 hz2 rfl (by decide) (.slice A m cap) m (bcells b) rfl (HO.out.alloc _) ⟨wr.heap.size, 0, none⟩ 1 1 [.int .u8 10] rfl rfl (cell_one_new _ _ _) (by intro u hu; rw [List.mem_singleton] at hu; subst hu; rfl) (by unfold maxLen; omega) (by omega) (by have := HB.out.size; simp; omega) ?_; intro v3 w3 ho3 hg3 _; obtain ⟨A3, c3, rfl, _⟩ := own_form ho3; have HO3 := Lib.hid ho3; have HG3 := Lib.hid hg3; clear ho3 hg3)
                        have HL := Lib.hid (show (b ++ [UInt8.ofNat 10]).length = m + 1 by rw [List.length_append, ← HM.out]; rfl)
                        go_wp2_with fail
                        go_roundw
                        case rel =>
                          refine ⟨(k + 1 + 1), b ++ [UInt8.ofNat 10], A3, c3, by go_num, by rw [HL.out], by omega, by omega, by rw [HL.out]; omega, HR2.out.symm, by rw [HL.out, HX2.out]; exact HO3.out, ?_⟩
                          exact (HB.out.alloc HB.out.size _).grown HG3.out (by have := HB.out.size; simp; omega) (fun g hg => (World.ownsRow.lt HO.out g hg).1)
                        case measure => simp [intOf]; omega
                    · have hb3 : ((cw : Int) == 110) = false := by rw [beq_eq_false_iff_ne]; omega
                      have HS7 : Hid (R = match (if c1 = 120 then hex2 s (k + 1 + 1) else .inl (k + 1, 9) : (Nat × Nat) ⊕ (Nat × Nat)) with
                        | .inl (q, e) => ([], 0, q, e)
                        | .inr (x, nx) => if b.length = 4095 then ([], 0, i, 2) else textL s i nx (b ++ [UInt8.ofNat x])) := by
                        have h := HS6.out
                        rw [if_neg (fun h => h3 (HCW.out.trans ((HE1.out 110).1 h)))] at h
                        exact h
                      clear HS6 h3
                      by_cases h4 : cw = 120
                      · have hb4 : ((cw : Int) == 120) = true := by rw [h4]; rfl
                        have HS8 : Hid (R = match hex2 s (k + 2) with
                          | .inl (q, e) => ([], 0, q, e)
                          | .inr (x, nx) => if b.length = 4095 then ([], 0, i, 2) else textL s i nx (b ++ [UInt8.ofNat x])) := by
                          have h := HS7.out
                          rw [if_pos ((HE1.out 120).2 (HCW.out.symm.trans h4))] at h
                          exact h
                        clear HS7 h4
                        go_wp2_with fail
                        obtain ⟨wo, rfl⟩ : ∃ wo : World, wo = wr := ⟨_, rfl⟩
                        go_loopw [9, 11, 57] (fun s9 s11 s57 wr => wr = wo ∧ ∃ j x : Nat, s57 = .int .i64 j ∧ s9 = .int .i64 ((k + 1 + j : Nat) : Int) ∧ s11 = .int .i64 x ∧ x < 256 ∧ ((j = 0 ∧ x = 0) ∨ (j = 1 ∧ x < 16 ∧ k + 2 < n ∧ ∃ a : UInt8, s[k + 2]? = some a ∧ hexD a = some x) ∨ (j = 2 ∧ k + 3 < n ∧ hex2 s (k + 2) = .inr (x, k + 4)))) (fun _ _ s57 _ => 2 - (intOf s57).toNat)
                        case atStart => exact ⟨rfl, 0, 0, rfl, by first | rfl | (congr 1), rfl, by omega, .inl ⟨rfl, rfl⟩⟩
                        case round =>
                          obtain ⟨rfl, j, x, rfl, rfl, rfl, hx, hj⟩ := hrel
                          rcases hj with ⟨rfl, rfl⟩ | ⟨rfl, hx16, hk2n, a, ha, hax⟩ | ⟨rfl, hk3, hh⟩
                          · by_cases hke : k + 2 = n
                            · have HR2 : Hid (R = ([], 0, k + 1 + 1, 4)) := by
                                have h := HS8.out
                                unfold hex2 at h
                                rw [List.getElem?_eq_none (by rw [← HN.out]; omega)] at h
                                rw [h, show s.length = k + 1 + 1 by rw [← HN.out]; omega]; exact rfl
                              have hkz : n ≤ k + 2 := by omega
                              have hkz2 : k + 2 ≤ n := by omega
                              clear hke
                              go_wp2_with fail
                              (try simp only [Exit.inBlock, Exit.then]); refine bodyPost_ret (results_tmp4 rfl _ _ _) rfl ?_
                              exact ⟨_, by rw [HR2.out]; rfl, by rw [HR2.out], HB.out⟩
                            · have hkl : k + 2 < n := by omega
                              clear hke
                              have hks : k + 2 < s.length := by rw [← HN.out]; exact hkl
                              obtain ⟨d1, hd1⟩ : ∃ c, c = s[k + 2] := ⟨_, rfl⟩
                              have hkst2 : k + 2 < st.size := by omega
                              have hgd : st[k + 2] = d1 := by rw [hd1]; exact st_get HST.out hkst2 hks
                              have HD1 : Hid (s[k + 2]? = some d1) := by rw [hd1]; exact List.getElem?_eq_getElem hks
                              clear hd1 hks
                              go_wp2_with fail
                              refine (hex_any d1 _).mono ?_
                              rintro e w2 ⟨rfl, hw2⟩
                              rw [hw2]
                              clear hw2 w2
                              cases hhd : hexD d1 with
                              | none =>
                                have HR2 : Hid (R = ([], 0, k + 2, 9)) := by
                                  have h := HS8.out
                                  unfold hex2 at h
                                  rw [HD1.out] at h
                                  simp only [hhd] at h
                                  exact h
                                clear hhd
                                simp only [Option.elim]
                                go_wp2_with fail
                                (try simp only [Exit.inBlock, Exit.then]); refine bodyPost_ret (results_tmp4 rfl _ _ _) rfl ?_
                                exact ⟨_, by rw [HR2.out]; rfl, by rw [HR2.out], HB.out⟩
                              | some d =>
                                have hd16 := hexD_lt hhd
                                have HHD := Lib.hid hhd
                                clear hhd
                                simp only [Option.elim]
                                go_wp2_with fail
                                go_roundw
                                case rel => exact ⟨trivial, 1, d, by go_num, congrArg (Value.int .i64) (by omega), congrArg (Value.int .i64) (by omega), by omega, .inr (.inl ⟨rfl, hd16, hkl, d1, HD1.out, HHD.out⟩)⟩
                                case measure => simp [intOf]
                          · have HA := Lib.hid (And.intro ha hax)
                            clear ha hax
                            by_cases hke : k + 3 = n
                            · have HR2 : Hid (R = ([], 0, k + 1 + 1 + 1, 4)) := by
                                have h := HS8.out
                                unfold hex2 at h
                                rw [HA.out.1] at h
                                simp only [HA.out.2] at h
                                rw [List.getElem?_eq_none (by rw [← HN.out]; omega)] at h
                                rw [h, show s.length = k + 1 + 1 + 1 by rw [← HN.out]; omega]; exact rfl
                              have hkz : n ≤ k + 3 := by omega
                              have hkz2 : k + 3 ≤ n := by omega
                              clear hke
                              go_wp2_with fail
                              (try simp only [Exit.inBlock, Exit.then]); refine bodyPost_ret (results_tmp4 rfl _ _ _) rfl ?_
                              exact ⟨_, by rw [HR2.out]; rfl, by rw [HR2.out], HB.out⟩
                            · have hkl : k + 3 < n := by omega
                              clear hke
                              have hks : k + 3 < s.length := by rw [← HN.out]; exact hkl
                              obtain ⟨d1, hd1⟩ : ∃ c, c = s[k + 3] := ⟨_, rfl⟩
                              have hkst2 : k + 3 < st.size := by omega
                              have hgd : st[k + 3] = d1 := by rw [hd1]; exact st_get HST.out hkst2 hks
                              have HD1 : Hid (s[k + 3]? = some d1) := by rw [hd1]; exact List.getElem?_eq_getElem hks
                              clear hd1 hks
                              go_wp2_with fail
                              refine (hex_any d1 _).mono ?_
                              rintro e w2 ⟨rfl, hw2⟩
                              rw [hw2]
                              clear hw2 w2
                              cases hhd : hexD d1 with
                              | none =>
                                have HR2 : Hid (R = ([], 0, k + 3, 9)) := by
                                  have h := HS8.out
                                  unfold hex2 at h
                                  rw [HA.out.1] at h
                                  simp only [HA.out.2] at h
                                  rw [HD1.out] at h
                                  simp only [hhd] at h
                                  exact h
                                clear hhd
                                simp only [Option.elim]
                                go_wp2_with fail
                                (try simp only [Exit.inBlock, Exit.then]); refine bodyPost_ret (results_tmp4 rfl _ _ _) rfl ?_
                                exact ⟨_, by rw [HR2.out]; rfl, by rw [HR2.out], HB.out⟩
                              | some d =>
                                have hd16 := hexD_lt hhd
                                have HHD := Lib.hid hhd
                                clear hhd
                                simp only [Option.elim]
                                go_wp2_with fail
                                go_roundw
                                case rel =>
                                  refine ⟨trivial, 2, 16 * x + d, by go_num, congrArg (Value.int .i64) (by omega), congrArg (Value.int .i64) (by omega), by omega, .inr (.inr ⟨rfl, hkl, ?_⟩)⟩
                                  unfold hex2
                                  rw [HA.out.1]
                                  simp only [HA.out.2]
                                  rw [HD1.out]
                                  simp only [HHD.out]
                                case measure => simp [intOf]
                          · have HS4 : Hid (R = if b.length = 4095 then ([], 0, i, 2) else textL s i (k + 4) (b ++ [UInt8.ofNat x])) := by
                              have h := HS8.out
                              rw [hh] at h
                              exact h
                            clear HS8 hh
                            by_cases hmx : m = 4095
                            · have HR2 : Hid (R = ([], 0, i, 2)) := by rw [HS4.out, if_pos (HM.out.symm.trans hmx)]; exact rfl
                              have hbm : ((m : Int) == 4095) = true := by rw [hmx]; rfl
                              clear hmx
                              go_wp2_with fail
                              (try simp only [Exit.inBlock, Exit.then]); refine bodyPost_ret (results_tmp4 rfl _ _ _) rfl ?_
                              exact ⟨_, by rw [HR2.out]; rfl, by rw [HR2.out], HB.out⟩
                            · have HR2 : Hid (R = textL s i (k + 4) (b ++ [UInt8.ofNat x])) := by rw [HS4.out, if_neg (fun h => hmx (HM.out.trans h))]; exact rfl
                              have hbm : ((m : Int) == 4095) = false := by rw [beq_eq_false_iff_ne]; omega
                              have HX2 : Hid (bcells (b ++ [UInt8.ofNat x]) = bcells b ++ [.int .u8 (x : Nat)]) := by rw [bcells_append]; exact congrArg (fun z => bcells b ++ [Value.int .u8 ((z : Nat) : Int)]) (by first | rfl | (rw [UInt8.toNat_ofNat']; exact Nat.mod_eq_of_lt (by omega)))
                              obtain ⟨hi0, hz0, hz1, hz2⟩ := HI.out
                              go_wp2_with (at_builtin; refine wpList_append_own _ rfl (.tmp 86) (.tmp 88) 73 rfl w.heap.size 5 i0 (.int .u8 0) 1 1 Tryd.underlying73 hi0 hz0 hz1 hz2 rfl (by decide) (.slice A m cap) m (bcells b) rfl (HO.out.alloc _) ⟨wr.heap.size, 0, none⟩ 1 1 [.int .u8 (x : Nat)] rfl rfl (cell_one_new _ _ _) (by intro u hu; rw [List.mem_singleton] at hu; subst hu; rfl) (by unfold maxLen; omega) (by omega) (by have := HB.out.size; simp; omega) ?_; intro v3 w3 ho3 hg3 _; obtain ⟨A3, c3, rfl, _⟩ := own_form ho3; have HO3 := Lib.hid ho3; have HG3 := Lib.hid hg3; clear ho3 hg3)
                              have HL := Lib.hid (show (b ++ [UInt8.ofNat x]).length = m + 1 by rw [List.length_append, ← HM.out]; rfl)
                              go_wp2_with fail
                              go_roundw
                              case rel =>
                                refine ⟨(k + 4), b ++ [UInt8.ofNat x], A3, c3, by go_num, by rw [HL.out], by omega, by omega, by rw [HL.out]; omega, HR2.out.symm, by rw [HL.out, HX2.out]; exact HO3.out, ?_⟩
                                exact (HB.out.alloc HB.out.size _).grown HG3.out (by have := HB.out.size; simp; omega) (fun g hg => (World.ownsRow.lt HO.out g hg).1)
                              case measure => simp [intOf]; omega
                      · have hb4 : ((cw : Int) == 120) = false := by rw [beq_eq_false_iff_ne]; omega
                        have HR2 : Hid (R = ([], 0, k + 1, 9)) := by
                          have h := HS7.out
                          rw [if_neg (fun h => h4 (HCW.out.trans ((HE1.out 120).1 h)))] at h
                          exact h
                        clear HS7 h4
                        go_wp2_with fail
                        (try simp only [Exit.inBlock, Exit.then]); refine bodyPost_ret (results_tmp4 rfl _ _ _) rfl ?_
                        exact ⟨_, by rw [HR2.out]; rfl, by rw [HR2.out], HB.out⟩
            · have hb92 : ((cv : Int) == 92) = false := by rw [beq_eq_false_iff_ne]; omega
              have HS4 : Hid (R = if b.length = 4095 then ([], 0, i, 2) else textL s i (k + 1) (b ++ [UInt8.ofNat cv])) := by
                have h := HS3.out
                unfold charL at h
                rw [if_neg (fun h => h92 (HCV.out.trans ((HE.out 92).1 h))), ← HCV.out] at h
                exact h
              clear HS3 h92
              by_cases hmx : m = 4095
              · have HR2 : Hid (R = ([], 0, i, 2)) := by rw [HS4.out, if_pos (HM.out.symm.trans hmx)]; exact rfl
                have hbm : ((m : Int) == 4095) = true := by rw [hmx]; rfl
                clear hmx
                go_wp2_with fail
                (try simp only [Exit.inBlock, Exit.then]); refine bodyPost_ret (results_tmp4 rfl _ _ _) rfl ?_
                exact ⟨_, by rw [HR2.out]; rfl, by rw [HR2.out], HB.out⟩
              · have HR2 : Hid (R = textL s i (k + 1) (b ++ [UInt8.ofNat cv])) := by rw [HS4.out, if_neg (fun h => hmx (HM.out.trans h))]; exact rfl
                have hbm : ((m : Int) == 4095) = false := by rw [beq_eq_false_iff_ne]; omega
                have HX2 : Hid (bcells (b ++ [UInt8.ofNat cv]) = bcells b ++ [.int .u8 (cv : Nat)]) := by rw [bcells_append]; exact congrArg (fun z => bcells b ++ [Value.int .u8 ((z : Nat) : Int)]) (by first | rfl | (rw [UInt8.toNat_ofNat']; exact Nat.mod_eq_of_lt (by omega)))
                obtain ⟨hi0, hz0, hz1, hz2⟩ := HI.out
                go_wp2_with (at_builtin; refine wpList_append_own _ rfl (.tmp 86) (.tmp 88) 73 rfl w.heap.size 5 i0 (.int .u8 0) 1 1 Tryd.underlying73 hi0 hz0 hz1 hz2 rfl (by decide) (.slice A m cap) m (bcells b) rfl (HO.out.alloc _) ⟨wr.heap.size, 0, none⟩ 1 1 [.int .u8 (cv : Nat)] rfl rfl (cell_one_new _ _ _) (by intro u hu; rw [List.mem_singleton] at hu; subst hu; rfl) (by unfold maxLen; omega) (by omega) (by have := HB.out.size; simp; omega) ?_; intro v3 w3 ho3 hg3 _; obtain ⟨A3, c3, rfl, _⟩ := own_form ho3; have HO3 := Lib.hid ho3; have HG3 := Lib.hid hg3; clear ho3 hg3)
                have HL := Lib.hid (show (b ++ [UInt8.ofNat cv]).length = m + 1 by rw [List.length_append, ← HM.out]; rfl)
                go_wp2_with fail
                go_roundw
                case rel =>
                  refine ⟨(k + 1), b ++ [UInt8.ofNat cv], A3, c3, by go_num, by rw [HL.out], by omega, by omega, by rw [HL.out]; omega, HR2.out.symm, by rw [HL.out, HX2.out]; exact HO3.out, ?_⟩
                  exact (HB.out.alloc HB.out.size _).grown HG3.out (by have := HB.out.size; simp; omega) (fun g hg => (World.ownsRow.lt HO.out g hg).1)
                case measure => simp [intOf]; omega
    · have HR2 : Hid (R = ([], 0, n, 4)) := by
        have h := HSTEP.out
        rw [List.getElem?_eq_none (by rw [← HN.out]; omega)] at h
        rw [h, HN.out]; exact rfl
      go_wp2_with fail
      (try simp only [Exit.inBlock, Exit.then]); refine bodyPost_ret (results_tmp4 rfl _ _ _) rfl ?_
      exact ⟨_, by rw [HR2.out]; rfl, by rw [HR2.out], HB.out⟩
end Go.Proofs.YtbcadlocldplfaaDoor
namespace Go
section
variable {P : Program} {a : Act} {w : World} {Q : Exit → Act → World → Prop}
theorem wp_scope_forward {c rest : Code} (l : Nat) (hf : findLabel c l = some rest)
    (first : c.wp P (Exit.jump l (fun a w => rest.wp P (Exit.jump l (fun _ _ => False) Q) a w) Q) a w) : (Code.scope c).wp P Q a w :=
  wp_scope_jumps l (fun a w => rest.wp P (Exit.jump l (fun _ _ => False) Q) a w) (fun _ _ => 0) hf first
    (fun _ _ h => wp_mono h (fun e a w h => by cases e <;> first | exact h | exact h.2.elim))
end
end Go
namespace Go.Proofs.YtbcadlocldplfaaDoor
open Go.RowKit
theorem Tryd.info44 : (Tryd.prog.info? 35).map (fun i => (i.zero, i.size, i.bytes)) = some (some (.agg #[.int .u8 0, .string ⟨#[]⟩, .int .i64 0, .int .i64 0]), 4, 40) := by kernel_rfl
def tokCells (t : Tok) : List Value := [.int .u8 (t.kind : Nat), .string ⟨t.text.toArray⟩, .int .i64 (t.int : Nat), .int .i64 (t.place : Nat)]
def tcells (l : List Tok) : List Value := l.flatMap tokCells
theorem tcells_append (l m : List Tok) : tcells (l ++ m) = tcells l ++ tcells m := by unfold tcells; rw [List.flatMap_append]
theorem tcells_one (t : Tok) : tcells [t] = tokCells t := by unfold tcells; simp
def AllPost (w : World) (R : List Tok × Nat × Nat) (e : Ending) (w' : World) : Prop :=
  ∃ A c, e = .returned (.tuple #[.slice A R.1.length c, .int .i64 (R.2.1 : Nat), .int .i64 (R.2.2 : Nat)]) ∧ w'.ownsRow w.heap.size 35 4 (.slice A R.1.length c) R.1.length (tcells R.1) ∧ Below w.heap.size w w'
abbrev sg2 : List UInt8 := [61, 60, 33]
theorem sg1_any (c : UInt8) (w : World) : Calls Tryd.prog 43 #[.string ⟨#[40, 41, 123, 125, 91, 93, 44, 61, 60, 43, 45, 42, 47, 37, 33]⟩, .int .u8 (c.toNat : Nat)] w fun e w' => e = .returned (.int .i64 (Lib.indexByte signs c)) ∧ w' = w := by
  have h := idx19 ⟨signs.toArray⟩ (c.toNat : Nat) w
  have e : ((c.toNat : Nat) : Int).toNat.toUInt8 = c := by rw [Int.toNat_natCast]; exact UInt8.ofNat_toNat
  have e2 : (⟨signs.toArray⟩ : ByteArray).data.toList = signs := rfl
  rw [e, e2] at h
  exact h
theorem sg2_any (c : UInt8) (w : World) : Calls Tryd.prog 43 #[.string ⟨#[61, 60, 33]⟩, .int .u8 (c.toNat : Nat)] w fun e w' => e = .returned (.int .i64 (Lib.indexByte sg2 c)) ∧ w' = w := by
  have h := idx19 ⟨sg2.toArray⟩ (c.toNat : Nat) w
  have e : ((c.toNat : Nat) : Int).toNat.toUInt8 = c := by rw [Int.toNat_natCast]; exact UInt8.ofNat_toNat
  have e2 : (⟨sg2.toArray⟩ : ByteArray).data.toList = sg2 := rfl
  rw [e, e2] at h
  exact h
theorem sg1_idx0 : ∀ n : Fin 256, (Lib.indexByte signs (UInt8.ofNat n.1) < 0) ↔ UInt8.ofNat n.1 ∉ signs := by decide +kernel
theorem sg2_idx0 : ∀ n : Fin 256, (0 ≤ Lib.indexByte sg2 (UInt8.ofNat n.1)) ↔ (UInt8.ofNat n.1 = 61 ∨ UInt8.ofNat n.1 = 60 ∨ UInt8.ofNat n.1 = 33) := by decide +kernel
theorem sg1_idx (c : UInt8) : (Lib.indexByte signs c < 0) ↔ c ∉ signs := by
  have h := sg1_idx0 ⟨c.toNat, UInt8.toNat_lt c⟩
  have e : UInt8.ofNat c.toNat = c := UInt8.ofNat_toNat
  rw [e] at h
  exact h
theorem sg2_idx (c : UInt8) : (0 ≤ Lib.indexByte sg2 c) ↔ (c = 61 ∨ c = 60 ∨ c = 33) := by
  have h := sg2_idx0 ⟨c.toNat, UInt8.toNat_lt c⟩
  have e : UInt8.ofNat c.toNat = c := UInt8.ofNat_toNat
  rw [e] at h
  exact h
theorem new2 (w : World) (o p : Obj) : ((w.alloc o).alloc p).heap[w.heap.size + 1]? = some p := by
  have h := heap_alloc_new (w.alloc o) p
  simpa using h
theorem news_of_blk {w : World} {g : Nat} {t : TypeId} {xs : List Value} (h : w.heap[g]? = some (.cells xs.toArray t (0, 0))) : ∀ j u, xs[j]? = some u → w.cell? ((⟨g, 0, none⟩ : Addr).add j) = some u := by
  intro j u hu
  rw [addr_add, Nat.zero_add, Blk.cell (show Blk w g t xs.toArray from h)]
  simpa using hu
theorem tokCells_one (t : Tok) : ∀ u ∈ tokCells t, u.oneCell' = true := by
  intro u hu
  unfold tokCells at hu
  simp only [List.mem_cons, List.not_mem_nil, or_false] at hu
  rcases hu with rfl | rfl | rfl | rfl <;> rfl
theorem wpList_app_tok {ops : Array Oper} {rest : List Oper} {o : Oper} {a : Act} {W : World} {Q : Exit → Act → World → Prop} (hgd : o.guard = none) (sl x : Operand)
    (ho : o.op = .call { callee := .builtin .append, args := #[sl, x], argTypes := #[30, 30] }) (base g m : Nat) (A : Option Addr) (cap : Nat) (l : List Tok) (t : Tok)
    (hs : a.eval sl = .slice A m cap) (hown : W.ownsRow base 35 4 (.slice A m cap) m (tcells l)) (hx : a.eval x = .slice (some ⟨g, 0, none⟩) 1 1)
    (hg : W.heap[g]? = some (.cells (tokCells t).toArray 35 (0, 0))) (hm : m ≤ 100000) (hb : base ≤ W.heap.size)
    (h : ∀ A' c' W', W'.ownsRow base 35 4 (.slice A' (m + 1) c') (m + 1) (tcells (l ++ [t])) → W.grownBy W' (Value.slice A m cap).ownBlock → wpList Tryd.prog ops Q rest (a.put o.dst (.slice A' (m + 1) c')) W') :
    wpList Tryd.prog ops Q (o :: rest) a W := by
  obtain ⟨i0, hi0, hz0, hz1, hz2⟩ := info_parts Tryd.info44
  refine wpList_append_own _ hgd sl x 30 ho base 35 i0 (.agg #[.int .u8 0, .string ⟨#[]⟩, .int .i64 0, .int .i64 0]) 4 40 Tryd.underlying30 hi0 hz0 hz1 hz2 rfl (by decide) (.slice A m cap) m (tcells l) hs hown ⟨g, 0, none⟩ 1 1 (tokCells t) hx rfl (news_of_blk hg) (tokCells_one t) (by unfold maxLen; omega) (by omega) hb ?_
  intro v3 w3 ho3 hg3 _
  obtain ⟨A3, c3, rfl, _⟩ := own_form ho3
  refine h A3 c3 w3 ?_ hg3
  rw [tcells_append, tcells_one]
  exact ho3
theorem ext_cut (s : List UInt8) (i e : Nat) : (⟨s.toArray⟩ : ByteArray).extract i e = ⟨(cutL s i e).toArray⟩ := by
  apply ByteArray.ext
  rw [ByteArray.data_extract]
  unfold cutL
  simp [List.drop_take]
section
variable {s : List UInt8} {i : Nat} {c : UInt8}
theorem all_end (h : s.length ≤ i) {l : List Tok} : allL s i l = (l, 0, 0) := by
  rw [allL_step, List.getElem?_eq_none h]
theorem all_blank (hc : s[i]? = some c) (h : c = 32 ∨ c = 10) (l : List Tok) : allL s i l = allL s (i + 1) l := by
  rw [allL_step, hc]
  show (if c = 32 ∨ c = 10 then _ else _) = _
  rw [if_pos h]
theorem all_remark (hc : s[i]? = some c) (h : c = 35) (l : List Tok) : allL s i l = allL s (scan notNl s i) l := by
  have hi : i < s.length := (List.getElem?_eq_some_iff.1 hc).1
  have hci : s[i] = c := by rw [List.getElem?_eq_getElem hi] at hc; injection hc
  rw [scan_step notNl s hi (by rw [hci, h]; rfl), allL_step, hc]
  show (if c = 32 ∨ c = 10 then _ else _) = _
  rw [if_neg (by rw [h]; decide), if_pos h]
theorem all_tok (hc : s[i]? = some c) (h1 : c ≠ 32) (h2 : c ≠ 10) (h3 : c ≠ 35) {t : Tok} {e : Nat} (h : oneL s i c = .inr (t, e)) (l : List Tok) : allL s i l = allL s e (l ++ [t]) := by
  rw [allL_step, hc]
  show (if c = 32 ∨ c = 10 then _ else _) = _
  rw [if_neg (fun h => h.elim h1 h2), if_neg h3, h]
theorem all_bad (hc : s[i]? = some c) (h1 : c ≠ 32) (h2 : c ≠ 10) (h3 : c ≠ 35) {q e : Nat} (h : oneL s i c = .inl (q, e)) (l : List Tok) : allL s i l = ([], q, e) := by
  rw [allL_step, hc]
  show (if c = 32 ∨ c = 10 then _ else _) = _
  rw [if_neg (fun h => h.elim h1 h2), if_neg h3, h]
end
theorem num_cases (s : List UInt8) (i : Nat) (hs : s.length ≤ 100000) (hi : i ≤ s.length) :
    (∃ x e q : Nat, numT s i = .inr (⟨2, [], x, i⟩, e) ∧ ∀ W, Calls Tryd.prog 41 #[.string ⟨s.toArray⟩, .int .i64 (i : Nat)] W fun E W' => E = .returned (.tuple #[.int .i64 (x : Nat), .int .i64 (e : Nat), .int .i64 (q : Nat), .int .i64 0]) ∧ W' = W) ∨
    (∃ x e q er : Nat, er ≠ 0 ∧ numT s i = .inl (q, er) ∧ ∀ W, Calls Tryd.prog 41 #[.string ⟨s.toArray⟩, .int .i64 (i : Nat)] W fun E W' => E = .returned (.tuple #[.int .i64 (x : Nat), .int .i64 (e : Nat), .int .i64 (q : Nat), .int .i64 (er : Nat)]) ∧ W' = W) := by
  by_cases h : (numL s i).2.2.2 = 0
  · refine .inl ⟨_, _, (numL s i).2.2.1, by unfold numT; rw [if_pos h], fun W => (number_any s i hs hi W).mono ?_⟩
    rintro e w' ⟨rfl, rfl⟩
    rw [h]
    exact ⟨rfl, rfl⟩
  · refine .inr ⟨(numL s i).1, (numL s i).2.1, _, _, h, by unfold numT; rw [if_neg h], fun W => (number_any s i hs hi W).mono ?_⟩
    rintro e w' ⟨rfl, rfl⟩
    exact ⟨rfl, rfl⟩
theorem text_cases (s : List UInt8) (i : Nat) (hs : s.length ≤ 100000) (hi : i < s.length) :
    (∃ (b : List UInt8) (e q : Nat), textT s i = .inr (⟨3, b, 0, i⟩, e) ∧ ∀ W, Calls Tryd.prog 42 #[.string ⟨s.toArray⟩, .int .i64 (i : Nat)] W fun E W' => E = .returned (.tuple #[.string ⟨b.toArray⟩, .int .i64 (e : Nat), .int .i64 (q : Nat), .int .i64 0]) ∧ Below W.heap.size W W') ∨
    (∃ (b : List UInt8) (e q er : Nat), er ≠ 0 ∧ textT s i = .inl (q, er) ∧ ∀ W, Calls Tryd.prog 42 #[.string ⟨s.toArray⟩, .int .i64 (i : Nat)] W fun E W' => E = .returned (.tuple #[.string ⟨b.toArray⟩, .int .i64 (e : Nat), .int .i64 (q : Nat), .int .i64 (er : Nat)]) ∧ Below W.heap.size W W') := by
  by_cases h : (textL s i (i + 1) []).2.2.2 = 0
  · refine .inl ⟨_, _, (textL s i (i + 1) []).2.2.1, by unfold textT; rw [if_pos h], fun W => (text_any s i hs hi W).mono ?_⟩
    rintro e w' ⟨st, rfl, h1, hb⟩
    rw [h, ← h1]
    exact ⟨rfl, hb⟩
  · refine .inr ⟨(textL s i (i + 1) []).1, (textL s i (i + 1) []).2.1, _, _, h, by unfold textT; rw [if_neg h], fun W => (text_any s i hs hi W).mono ?_⟩
    rintro e w' ⟨st, rfl, h1, hb⟩
    rw [← h1]
    exact ⟨rfl, hb⟩
end Go.Proofs.YtbcadlocldplfaaDoor
