/- Plain law: tokens of a source that stands ahead of a new line, or behind something that is skipped. No program in sight. And what follows from it. -/
import Derived.Test.YtbcadlocldplfaaMad
import Derived.Test.YtbcadlocldplfaaMae
import Derived.Test.YtbcadlocldplfaaMai
set_option linter.unusedSimpArgs false
set_option linter.unusedVariables false
namespace Go.Proofs.Ytbcadlocldplfaa

theorem esc_err' {s : List UInt8} {k q e : Nat} (h : escL s k = .inl (q, e)) : e ≠ 0 := by
  unfold escL at h
  split at h
  · injection h with h; injection h with _ h2; omega
  · split at h
    · cases h
    · split at h
      · cases h
      · split at h
        · unfold hex2 at h
          split at h
          · injection h with h; injection h with _ h2; omega
          · split at h
            · injection h with h; injection h with _ h2; omega
            · split at h
              · injection h with h; injection h with _ h2; omega
              · split at h
                · injection h with h; injection h with _ h2; omega
                · cases h
        · injection h with h; injection h with _ h2; omega
theorem one_err' {s : List UInt8} {i : Nat} {c : UInt8} {q er : Nat} (h : oneL s i c = .inl (q, er)) : er ≠ 0 := by
  unfold oneL at h
  split at h
  · unfold wordL at h
    split at h
    · injection h with h; injection h with _ h; omega
    · cases h
  · split at h
    · unfold numT at h
      split at h
      · cases h
      · rename_i h0; injection h with h; injection h with _ h; rw [← h]; exact h0
    · split at h
      · unfold textT at h
        split at h
        · cases h
        · rename_i h0; injection h with h; injection h with _ h; rw [← h]; exact h0
      · unfold signL at h
        split at h
        · injection h with h; injection h with _ h; omega
        · split at h
          · injection h with h; injection h with _ h; omega
          · split at h
            · split at h <;> cases h
            · injection h with h; injection h with _ h; omega

/-! ### Ahead of a new line -/
section
variable {a x : List UInt8}
theorem ext_get {k : Nat} {c : UInt8} (r : List UInt8) (h : a[k]? = some c) : (a ++ r)[k]? = some c := by
  have := (List.getElem?_eq_some_iff.1 h).1
  rw [List.getElem?_append_left this]; exact h
theorem takeWhile_all (p : UInt8 → Bool) : ∀ r : List UInt8, (∀ c ∈ r, p c = true) → r.takeWhile p = r
  | [], _ => rfl
  | c :: r, h => by rw [List.takeWhile_cons, h c (by simp), if_pos rfl, takeWhile_all p r (fun d hd => h d (by simp [hd]))]
theorem takeWhile_ext (p : UInt8 → Bool) (hp : p 10 = false) : ∀ y : List UInt8, (y ++ 10 :: x).takeWhile p = y.takeWhile p
  | [] => by simp [List.takeWhile_cons, hp]
  | c :: y => by
    rw [List.cons_append, List.takeWhile_cons, List.takeWhile_cons, takeWhile_ext p hp y]
theorem scan_ext (p : UInt8 → Bool) (hp : p 10 = false) {i : Nat} (hi : i ≤ a.length) : scan p (a ++ 10 :: x) i = scan p a i := by
  unfold scan
  rw [List.drop_append_of_le_length hi, takeWhile_ext p hp]
theorem cut_ext (r : List UInt8) {i e : Nat} (he : e ≤ a.length) : cutL (a ++ r) i e = cutL a i e := by
  unfold cutL
  rw [List.take_append_of_le_length he]
theorem num_ext {i : Nat} (hi : i < a.length) : numL (a ++ 10 :: x) i = numL a i := by
  have hs := scan_ext (x := x) digB (by decide) (Nat.le_of_lt hi)
  have hle := scan_le digB a (Nat.le_of_lt hi)
  have hg : (a ++ 10 :: x)[i]? = a[i]? := List.getElem?_append_left hi
  unfold numL
  rw [hs, hg, cut_ext _ hle]
  split
  · rfl
  · split
    · rfl
    · rcases Nat.lt_or_ge (scan digB a i) a.length with h | h
      · rw [dif_pos h, dif_pos (by rw [List.length_append]; omega)]
        rw [List.getElem_append_left h]
      · have he : scan digB a i = a.length := by omega
        rw [dif_pos (show scan digB a i < (a ++ 10 :: x).length by rw [List.length_append, List.length_cons]; omega), dif_neg (show ¬ scan digB a i < a.length by omega)]
        have hten : (a ++ 10 :: x)[scan digB a i]'(by rw [List.length_append, List.length_cons]; omega) = 10 := by
          simp [he]
        rw [hten]; rfl
theorem hex2_ext (r : List UInt8) {k : Nat} {v : Nat × Nat} (h : hex2 a k = .inr v) : hex2 (a ++ r) k = .inr v := by
  unfold hex2 at h ⊢
  split at h
  · cases h
  · rename_i c hc
    rw [ext_get r hc]
    dsimp only
    split at h
    · cases h
    · rename_i d hd
      try rw [hd]
      try dsimp only
      split at h
      · cases h
      · rename_i c2 hc2
        rw [ext_get r hc2]
        exact h
theorem esc_ext (r : List UInt8) {k : Nat} {v : Nat × Nat} (h : escL a k = .inr v) : escL (a ++ r) k = .inr v := by
  unfold escL at h ⊢
  split at h
  · cases h
  · rename_i c hc
    rw [ext_get r hc]
    dsimp only
    split at h
    · rename_i h1; rw [if_pos h1]; exact h
    · rename_i h1
      rw [if_neg h1]
      split at h
      · rename_i h2; rw [if_pos h2]; exact h
      · rename_i h2
        rw [if_neg h2]
        split at h
        · rename_i h3; rw [if_pos h3]; exact hex2_ext r h
        · cases h
theorem char_ext (r : List UInt8) {c : UInt8} {k : Nat} {v : Nat × Nat} (h : charL a c k = .inr v) : charL (a ++ r) c k = .inr v := by
  unfold charL at h ⊢
  split at h
  · rename_i h1; rw [if_pos h1]; exact esc_ext r h
  · rename_i h1; rw [if_neg h1]; exact h
theorem char_err {s : List UInt8} {c : UInt8} {k q e : Nat} (h : charL s c k = .inl (q, e)) : e ≠ 0 := by
  unfold charL at h
  split at h
  · exact esc_err' h
  · cases h
theorem textN_ext (r : List UInt8) (i : Nat) : ∀ (n k : Nat) (b : List UInt8), (textN n a i k b).2.2.2 = 0 → ∀ m, n ≤ m → textN m (a ++ r) i k b = textN n a i k b
  | 0, _, _, h, _, _ => by unfold textN at h; cases h
  | n + 1, k, b, h, 0, hm => by omega
  | n + 1, k, b, h, m + 1, hm => by
    unfold textN at h ⊢
    cases hc : a[k]? with
    | none => rw [hc] at h; cases h
    | some c =>
      rw [hc] at h
      rw [ext_get r hc]
      dsimp only at h ⊢
      split at h
      · rename_i h1; rw [if_pos h1, if_pos h1]
      · rename_i h1
        rw [if_neg h1, if_neg h1]
        split at h
        · cases h
        · rename_i h2
          rw [if_neg h2, if_neg h2]
          cases hch : charL a c k with
          | inl v => rw [hch] at h; exact absurd h (char_err hch)
          | inr v =>
            rw [hch] at h
            rw [char_ext r hch]
            dsimp only at h ⊢
            split at h
            · cases h
            · rename_i h3
              rw [if_neg h3, if_neg h3]
              exact textN_ext r i n _ _ h m (by omega)
theorem one_ext {i : Nat} {c : UInt8} (hc : a[i]? = some c) {v : Tok × Nat} (h : oneL a i c = .inr v) : oneL (a ++ 10 :: x) i c = .inr v := by
  have hi : i < a.length := (List.getElem?_eq_some_iff.1 hc).1
  unfold oneL at h ⊢
  split at h
  · rename_i h1
    rw [if_pos h1]
    unfold wordL at h ⊢
    have hs := scan_ext (a := a) (x := x) innB (by decide) (Nat.le_of_lt hi)
    have hle := scan_le innB a (Nat.le_of_lt hi)
    rw [hs, cut_ext _ hle]
    exact h
  · rename_i h1
    rw [if_neg h1]
    split at h
    · rename_i h2
      rw [if_pos h2]
      unfold numT at h ⊢
      rw [num_ext hi]; exact h
    · rename_i h2
      rw [if_neg h2]
      split at h
      · rename_i h3
        rw [if_pos h3]
        unfold textT at h ⊢
        split at h
        · rename_i h0
          have := textN_ext (10 :: x) i a.length (i + 1) [] h0 (a ++ 10 :: x).length (by rw [List.length_append]; omega)
          have e : textL (a ++ 10 :: x) i (i + 1) [] = textL a i (i + 1) [] := this
          rw [e, if_pos h0]; exact h
        · cases h
      · rename_i h3
        rw [if_neg h3]
        unfold signL at h ⊢
        split at h
        · cases h
        · rename_i h4
          split at h
          · cases h
          · rename_i h5
            split at h
            · rename_i h6
              have h4' : ¬ (c = 33 ∧ (a ++ 10 :: x).length ≤ i + 1) := fun hh => h4 ⟨hh.1, by have := hh.2; rw [List.length_append] at this; omega⟩
              rw [if_neg h4']
              rcases Nat.lt_or_ge (i + 1) a.length with hl | hl
              · have hg : (a ++ 10 :: x)[i + 1]? = a[i + 1]? := List.getElem?_append_left hl
                rw [hg, if_neg h5, if_pos h6, cut_ext _ (by omega : i + 1 ≤ a.length)]
                split at h
                · rename_i h7; rw [if_pos h7, cut_ext _ (by omega : i + 2 ≤ a.length)]; exact h
                · rename_i h7; rw [if_neg h7]; exact h
              · have hil : i + 1 = a.length := by omega
                have hg : (a ++ 10 :: x)[i + 1]? = some 10 := by rw [hil]; simp
                have hn : a[i + 1]? = none := List.getElem?_eq_none hl
                have h33 : c ≠ 33 := fun hh => h4 ⟨hh, hl⟩
                rw [hg, if_neg (fun hh => h33 hh.1), if_pos h6, cut_ext _ (by omega : i + 1 ≤ a.length), if_neg (fun hh => by have := hh.2; injection this with this; revert this; decide)]
                rw [hn, if_neg (fun hh => by cases hh.2)] at h
                exact h
            · cases h
theorem all_ext (a x : List UInt8) : ∀ (d i : Nat) (l l' : List Tok), a.length - i ≤ d → i ≤ a.length → allL a i l = (l', 0, 0) → allL (a ++ 10 :: x) i l = allL (a ++ 10 :: x) a.length l'
  | d, i, l, l', hd, hi, h => by
    rcases Nat.lt_or_ge i a.length with hlt | hge
    · cases d with
      | zero => omega
      | succ d =>
        obtain ⟨c, hc⟩ : ∃ c, a[i]? = some c := ⟨_, List.getElem?_eq_getElem hlt⟩
        rw [allL_step, hc] at h
        rw [allL_step, ext_get (10 :: x) hc]
        dsimp only at h ⊢
        split at h
        · rename_i h1; rw [if_pos h1]; exact all_ext a x d _ l l' (by omega) (by omega) h
        · rename_i h1
          rw [if_neg h1]
          split at h
          · rename_i h2
            have h3 := scan_ge notNl a (i + 1)
            have h4 := scan_le notNl a (i := i + 1) (by omega)
            rw [if_pos h2, scan_ext notNl (by decide) (by omega)]
            exact all_ext a x d _ l l' (by omega) h4 h
          · rename_i h2
            rw [if_neg h2]
            cases ho : oneL a i c with
            | inl v =>
              rw [ho] at h
              have := one_err' ho
              dsimp only at h
              injection h with _ h; injection h with _ h
              exact absurd h this
            | inr v =>
              rw [ho] at h
              rw [one_ext hc ho]
              have hn := oneL_next hc (t := v.1) (e := v.2) ho
              exact all_ext a x d _ _ l' (by omega) hn.2 h
    · obtain rfl : i = a.length := by omega
      rw [allL_step, List.getElem?_eq_none hge] at h
      injection h with h
      rw [h]
end

/-! ### Behind something -/
section
variable {p b : List UInt8}
def shift (n : Nat) (t : Tok) : Tok := ⟨t.kind, t.text, t.int, t.place + n⟩
theorem sh_get (i : Nat) : (p ++ b)[p.length + i]? = b[i]? := by
  rw [List.getElem?_append_right (by omega), Nat.add_sub_cancel_left]
theorem sh_scan (q : UInt8 → Bool) (i : Nat) : scan q (p ++ b) (p.length + i) = p.length + scan q b i := by
  unfold scan
  rw [show (p ++ b).drop (p.length + i) = b.drop i by rw [← List.drop_drop, List.drop_left], Nat.add_assoc]
theorem sh_cut (i e : Nat) : cutL (p ++ b) (p.length + i) (p.length + e) = cutL b i e := by
  unfold cutL
  rw [List.drop_take, List.drop_take, show (p ++ b).drop (p.length + i) = b.drop i by rw [← List.drop_drop, List.drop_left], show p.length + e - (p.length + i) = e - i by omega]
theorem sh_num (i : Nat) (h : (numL b i).2.2.2 = 0) : (numL (p ++ b) (p.length + i)).1 = (numL b i).1 ∧ (numL (p ++ b) (p.length + i)).2.1 = p.length + (numL b i).2.1 ∧ (numL (p ++ b) (p.length + i)).2.2.2 = 0 := by
  unfold numL at h ⊢
  rw [sh_get, sh_scan, sh_cut]
  have e1 : (p.length + i + 1 < p.length + scan digB b i) ↔ (i + 1 < scan digB b i) := by omega
  simp only [e1]
  split at h
  · cases h
  · rename_i h1
    rw [if_neg h1]
    split at h
    · cases h
    · rename_i h2
      rw [if_neg h2, if_neg h1, if_neg h2]
      by_cases h3 : scan digB b i < b.length
      · rw [dif_pos h3] at h
        rw [dif_pos h3, dif_pos (by rw [List.length_append]; omega)]
        have hg : (p ++ b)[p.length + scan digB b i]'(by rw [List.length_append]; omega) = b[scan digB b i] := by
          have := sh_get (p := p) (b := b) (scan digB b i)
          rw [List.getElem?_eq_getElem (by rw [List.length_append]; omega), List.getElem?_eq_getElem h3] at this
          injection this
        rw [hg]
        split at h
        · cases h
        · rename_i h4; rw [if_neg h4, if_neg h4]; exact ⟨rfl, rfl, rfl⟩
      · rw [dif_neg h3, dif_neg (by rw [List.length_append]; omega)]; exact ⟨rfl, rfl, rfl⟩
theorem sh_hex2 {k x nx : Nat} (h : hex2 b k = .inr (x, nx)) : hex2 (p ++ b) (p.length + k) = .inr (x, p.length + nx) := by
  unfold hex2 at h ⊢
  rw [sh_get]
  split at h
  · cases h
  · rename_i c hc
    split at h
    · cases h
    · rename_i d hd
      split at h
      · cases h
      · rename_i c2 hc2
        try rw [hd]
        try dsimp only
        rw [Nat.add_assoc, sh_get, hc2]
        dsimp only
        split at h
        · cases h
        · rename_i y hy
          try rw [hy]
          try dsimp only
          injection h with h; injection h with h1 h2
          rw [← h1, ← h2]; rfl
theorem sh_esc {k x nx : Nat} (h : escL b k = .inr (x, nx)) : escL (p ++ b) (p.length + k) = .inr (x, p.length + nx) := by
  unfold escL at h ⊢
  rw [sh_get]
  split at h
  · cases h
  · rename_i c hc
    try dsimp only
    split at h
    · rename_i h1; rw [if_pos h1]; injection h with h; injection h with h2 h3; rw [← h2, ← h3]; rfl
    · rename_i h1
      rw [if_neg h1]
      split at h
      · rename_i h2; rw [if_pos h2]; injection h with h; injection h with h3 h4; rw [← h3, ← h4]; rfl
      · rename_i h2
        rw [if_neg h2]
        split at h
        · rename_i h3; rw [if_pos h3, Nat.add_assoc]; exact sh_hex2 h
        · cases h
theorem sh_char {c : UInt8} {k x nx : Nat} (h : charL b c k = .inr (x, nx)) : charL (p ++ b) c (p.length + k) = .inr (x, p.length + nx) := by
  unfold charL at h ⊢
  split at h
  · rename_i h1; rw [if_pos h1, Nat.add_assoc]; exact sh_esc h
  · rename_i h1; rw [if_neg h1]; injection h with h; injection h with h2 h3; rw [← h2, ← h3]; rfl
theorem sh_textN (i : Nat) : ∀ (n k : Nat) (w : List UInt8), (textN n b i k w).2.2.2 = 0 → ∀ m j, n ≤ m →
    (textN m (p ++ b) j (p.length + k) w).1 = (textN n b i k w).1 ∧ (textN m (p ++ b) j (p.length + k) w).2.1 = p.length + (textN n b i k w).2.1 ∧ (textN m (p ++ b) j (p.length + k) w).2.2.2 = 0
  | 0, _, _, h, _, _, _ => by unfold textN at h; cases h
  | n + 1, k, w, h, 0, _, hm => by omega
  | n + 1, k, w, h, m + 1, j, hm => by
    unfold textN at h ⊢
    rw [sh_get]
    cases hc : b[k]? with
    | none => rw [hc] at h; cases h
    | some c =>
      rw [hc] at h
      dsimp only at h ⊢
      split at h
      · rename_i h1; rw [if_pos h1, if_pos h1]; exact ⟨rfl, rfl, rfl⟩
      · rename_i h1
        rw [if_neg h1, if_neg h1]
        split at h
        · cases h
        · rename_i h2
          rw [if_neg h2, if_neg h2]
          rcases hch : charL b c k with ⟨q, e⟩ | ⟨y, nx⟩
          · rw [hch] at h; exact absurd h (char_err hch)
          · rw [hch] at h
            rw [sh_char hch]
            dsimp only at h ⊢
            split at h
            · cases h
            · rename_i h3
              rw [if_neg h3, if_neg h3]
              exact sh_textN i n nx _ h m j (by omega)
theorem sh_one {i : Nat} {c : UInt8} {t : Tok} {e : Nat} (h : oneL b i c = .inr (t, e)) : oneL (p ++ b) (p.length + i) c = .inr (shift p.length t, p.length + e) := by
  unfold oneL at h ⊢
  split at h
  · rename_i h1
    rw [if_pos h1]
    unfold wordL at h ⊢
    rw [sh_scan, sh_cut, show p.length + scan innB b i - (p.length + i) = scan innB b i - i by omega]
    split at h
    · cases h
    · rename_i h2
      rw [if_neg h2]
      injection h with h; injection h with h3 h4
      rw [← h3, ← h4]; unfold shift; rw [Nat.add_comm p.length i]
  · rename_i h1
    rw [if_neg h1]
    split at h
    · rename_i h2
      rw [if_pos h2]
      unfold numT at h ⊢
      split at h
      · rename_i h0
        obtain ⟨e1, e2, e3⟩ := sh_num (p := p) i h0
        rw [if_pos e3, e1, e2]
        injection h with h; injection h with h3 h4
        rw [← h3, ← h4]; unfold shift; rw [Nat.add_comm p.length i]
      · cases h
    · rename_i h2
      rw [if_neg h2]
      split at h
      · rename_i h3
        rw [if_pos h3]
        unfold textT at h ⊢
        split at h
        · rename_i h0
          obtain ⟨e1, e2, e3⟩ := sh_textN (p := p) i b.length (i + 1) [] h0 (p ++ b).length (p.length + i) (by rw [List.length_append]; omega)
          have hk : textL (p ++ b) (p.length + i) (p.length + i + 1) [] = textN (p ++ b).length (p ++ b) (p.length + i) (p.length + (i + 1)) [] := rfl
          rw [hk, if_pos e3, e1, e2]
          injection h with h; injection h with h4 h5
          rw [← h4, ← h5]; unfold shift; rw [Nat.add_comm p.length i]; rfl
        · cases h
      · rename_i h3
        rw [if_neg h3]
        unfold signL at h ⊢
        rw [show p.length + i + 1 = p.length + (i + 1) from rfl, show p.length + i + 2 = p.length + (i + 2) from rfl, sh_get, sh_cut, sh_cut, List.length_append]
        have e1 : (p.length + b.length ≤ p.length + (i + 1)) ↔ (b.length ≤ i + 1) := by omega
        simp only [e1]
        split at h
        · cases h
        · rename_i h4
          rw [if_neg h4]
          split at h
          · cases h
          · rename_i h5
            rw [if_neg h5]
            split at h
            · rename_i h6
              rw [if_pos h6]
              split at h
              · rename_i h7
                rw [if_pos h7]
                injection h with h; injection h with h8 h9
                rw [← h8, ← h9]; unfold shift; rw [Nat.add_comm p.length i]
              · rename_i h7
                rw [if_neg h7]
                injection h with h; injection h with h8 h9
                rw [← h8, ← h9]; unfold shift; rw [Nat.add_comm p.length i]
            · cases h
theorem sh_all (p b : List UInt8) (acc : List Tok) : ∀ (d i : Nat) (l l' : List Tok), b.length - i ≤ d → i ≤ b.length → allL b i l = (l', 0, 0) → allL (p ++ b) (p.length + i) (acc ++ l.map (shift p.length)) = (acc ++ l'.map (shift p.length), 0, 0)
  | d, i, l, l', hd, hi, h => by
    rcases Nat.lt_or_ge i b.length with hlt | hge
    · cases d with
      | zero => omega
      | succ d =>
        obtain ⟨c, hc⟩ : ∃ c, b[i]? = some c := ⟨_, List.getElem?_eq_getElem hlt⟩
        rw [allL_step, hc] at h
        rw [allL_step, sh_get, hc]
        dsimp only at h ⊢
        split at h
        · rename_i h1; rw [if_pos h1]; exact sh_all p b acc d (i + 1) l l' (by omega) (by omega) h
        · rename_i h1
          rw [if_neg h1]
          split at h
          · rename_i h2
            have h3 := scan_ge notNl b (i + 1)
            have h4 := scan_le notNl b (i := i + 1) (by omega)
            rw [if_pos h2, Nat.add_assoc, sh_scan]
            exact sh_all p b acc d _ l l' (by omega) h4 h
          · rename_i h2
            rw [if_neg h2]
            rcases ho : oneL b i c with ⟨q, e⟩ | ⟨t, e⟩
            · rw [ho] at h
              have := one_err' ho
              dsimp only at h
              injection h with _ h; injection h with _ h
              exact absurd h this
            · rw [ho] at h
              rw [sh_one ho]
              have hn := oneL_next hc ho
              have ih := sh_all p b acc d e (l ++ [t]) l' (by omega) hn.2 h
              rw [List.map_append, ← List.append_assoc] at ih
              exact ih
    · rw [allL_step, List.getElem?_eq_none hge] at h
      rw [allL_step, List.getElem?_eq_none (by rw [List.length_append]; omega)]
      injection h with h
      rw [h]
end

/-! ### What is skipped -/
def Skips (m : List UInt8) : Prop := ∀ (p x : List UInt8) (l : List Tok), allL (p ++ (m ++ x)) p.length l = allL (p ++ (m ++ x)) (p.length + m.length) l
theorem skips_nil : Skips [] := fun _ _ _ => rfl
theorem skips_app {m k : List UInt8} (h : Skips m) (h2 : Skips k) : Skips (m ++ k) := fun p x l => by
  have e1 := h p (k ++ x) l
  have e2 := h2 (p ++ m) x l
  rw [List.append_assoc, List.length_append] at e2
  rw [List.append_assoc, e1, e2, List.length_append, Nat.add_assoc]
theorem skips_blank {c : UInt8} (h : c = 32 ∨ c = 10) : Skips [c] := fun p x l => by
  have hc : (p ++ ([c] ++ x))[p.length]? = some c := by simp
  rw [allL_step, hc]
  dsimp only
  rw [if_pos h]; rfl
theorem skips_many {c : UInt8} (h : c = 32 ∨ c = 10) : ∀ n, Skips (List.replicate n c)
  | 0 => skips_nil
  | n + 1 => by rw [List.replicate_succ]; exact skips_app (skips_blank h) (skips_many h n)
theorem skips_remark {r : List UInt8} (h : ∀ c ∈ r, c ≠ 10) : Skips (35 :: (r ++ [10])) := fun p x l => by
  have hc : (p ++ ((35 :: (r ++ [10])) ++ x))[p.length]? = some 35 := by simp
  rw [allL_step, hc]
  dsimp only
  rw [if_neg (by decide), if_pos rfl]
  have hs : scan notNl (p ++ ((35 :: (r ++ [10])) ++ x)) (p.length + 1) = p.length + 1 + r.length := by
    unfold scan
    have hd : (p ++ ((35 :: (r ++ [10])) ++ x)).drop (p.length + 1) = r ++ 10 :: x := by
      rw [← List.drop_drop, List.drop_left]
      simp
    rw [hd, takeWhile_ext notNl (by decide)]
    congr 1
    rw [takeWhile_all notNl r (fun c hc => by unfold notNl; exact decide_eq_true (h c hc))]
  rw [hs, allL_step]
  have h10 : (p ++ ((35 :: (r ++ [10])) ++ x))[p.length + 1 + r.length]? = some 10 := by
    rw [Nat.add_assoc, sh_get]
    rw [show (35 :: (r ++ [10])) ++ x = 35 :: (r ++ 10 :: x) by simp, show 1 + r.length = r.length + 1 by omega, List.getElem?_cons_succ]
    simp
  rw [h10]
  dsimp only
  rw [if_pos (.inr rfl)]
  congr 1
  simp
  omega

/-- **Blanks and remarks between two sources change nothing.** -/
theorem blanks_law {a m b : List UInt8} {la lb : List Tok} (hm : Skips m) (ha : allL a 0 [] = (la, 0, 0)) (hb : allL b 0 [] = (lb, 0, 0)) :
    allL (a ++ 10 :: (m ++ b)) 0 [] = (la ++ lb.map (shift (a.length + 1 + m.length)), 0, 0) := by
  rw [all_ext a (m ++ b) a.length 0 [] la (by omega) (by omega) ha]
  have h1 := skips_app (skips_blank (c := 10) (.inr rfl)) hm a b la
  have h2 := sh_all (a ++ (10 :: m)) b la b.length 0 [] lb (by omega) (by omega) hb
  have e : a ++ 10 :: m ++ b = a ++ ([10] ++ m ++ b) := by simp
  have e2 : (a ++ 10 :: m).length = a.length + 1 + m.length := by simp; omega
  rw [e, e2, Nat.add_zero, List.map_nil, List.append_nil] at h2
  have e3 : a.length + ([10] ++ m).length = a.length + 1 + m.length := by simp; omega
  rw [e3] at h1
  have e4 : a ++ 10 :: (m ++ b) = a ++ ([10] ++ m ++ b) := by simp
  rw [e4, h1, h2]
theorem all_ok {s : List UInt8} {i : Nat} {l l' : List Tok} {q e : Nat} (h : allL s i l = (l', q, e)) (he : e = 0) : q = 0 := by
  have key : ∀ (n : Nat) (i : Nat) (l : List Tok), (allN n s i l).2.2 = 0 → (allN n s i l).2.1 = 0 := by
    intro n
    induction n with
    | zero => intro i l _; rfl
    | succ n ih =>
      intro i l h
      unfold allN at h ⊢
      cases hc : s[i]? with
      | none => rfl
      | some c =>
        rw [hc] at h
        dsimp only at h ⊢
        split at h
        · rename_i h1; rw [if_pos h1]; exact ih _ _ h
        · rename_i h1
          rw [if_neg h1]
          split at h
          · rename_i h2; rw [if_pos h2]; exact ih _ _ h
          · rename_i h2
            rw [if_neg h2]
            rcases ho : oneL s i c with ⟨q, e⟩ | ⟨t, e⟩
            · rw [ho] at h; exact absurd h (one_err' ho)
            · rw [ho] at h; exact ih _ _ h
  have := key s.length i l (by have : allN s.length s i l = (l', q, e) := h; rw [this]; exact he)
  rw [show allN s.length s i l = (l', q, e) from h] at this
  exact this
end Go.Proofs.Ytbcadlocldplfaa
namespace Go.Proofs.Ytbcadlocldplfaa

theorem get_take {s : List UInt8} {cut k : Nat} (h : k < cut) : (s.take cut)[k]? = s[k]? := by rw [List.getElem?_take, if_pos h]
theorem get_take_none {s : List UInt8} {cut k : Nat} (h : cut ≤ k) : (s.take cut)[k]? = none := by rw [List.getElem?_take, if_neg (by omega)]
theorem takeWhile_take (q : UInt8 → Bool) : ∀ (l : List UInt8) (k : Nat), ((l.take k).takeWhile q).length = min (l.takeWhile q).length k
  | [], k => by simp
  | c :: l, 0 => by simp
  | c :: l, k + 1 => by
    rw [List.take_succ_cons, List.takeWhile_cons, List.takeWhile_cons]
    have := takeWhile_take q l k
    split
    · simp only [List.length_cons, this]; omega
    · simp
theorem scan_take (q : UInt8 → Bool) (s : List UInt8) {i cut : Nat} (hi : i ≤ cut) : scan q (s.take cut) i = min (scan q s i) cut := by
  unfold scan
  rw [List.drop_take, takeWhile_take]
  omega
theorem cut_take (s : List UInt8) {i e cut : Nat} (h : e ≤ cut) : cutL (s.take cut) i e = cutL s i e := by
  unfold cutL
  rw [List.take_take, Nat.min_eq_left h]
section
variable {s : List UInt8} {cut : Nat}
theorem len_take (hc : cut ≤ s.length) : (s.take cut).length = cut := by rw [List.length_take, Nat.min_eq_left hc]
theorem hex_take (hc : cut ≤ s.length) {k x nx : Nat} (h : hex2 s k = .inr (x, nx)) : (nx ≤ cut ∧ hex2 (s.take cut) k = .inr (x, nx)) ∨ (cut < nx ∧ hex2 (s.take cut) k = .inl (cut, 4)) := by
  have hl := len_take hc
  unfold hex2 at h ⊢
  rcases Nat.lt_or_ge k cut with h1 | h1
  · rw [get_take h1]
    cases ha : s[k]? with
    | none => rw [ha] at h; cases h
    | some a =>
      rw [ha] at h
      dsimp only at h ⊢
      cases hx : hexD a with
      | none => rw [hx] at h; cases h
      | some x1 =>
        rw [hx] at h
        dsimp only at h ⊢
        rcases Nat.lt_or_ge (k + 1) cut with h2 | h2
        · rw [get_take h2]
          cases hb : s[k + 1]? with
          | none => rw [hb] at h; cases h
          | some b =>
            rw [hb] at h
            dsimp only at h ⊢
            cases hy : hexD b with
            | none => rw [hy] at h; cases h
            | some y =>
              rw [hy] at h
              dsimp only at h ⊢
              injection h with h
              injection h with h3 h4
              exact .inl ⟨by omega, by rw [h3, h4]⟩
        · rw [get_take_none h2, hl]
          refine .inr ⟨?_, rfl⟩
          split at h
          · cases h
          · split at h
            · cases h
            · injection h with h; injection h with h3 h4; omega
  · rw [get_take_none h1, hl]
    refine .inr ⟨?_, rfl⟩
    split at h
    · cases h
    · split at h
      · cases h
      · split at h
        · cases h
        · split at h
          · cases h
          · injection h with h; injection h with h3 h4; omega
theorem char_take (hc : cut ≤ s.length) {c : UInt8} {k x nx : Nat} (hk : k < cut) (h : charL s c k = .inr (x, nx)) : (nx ≤ cut ∧ charL (s.take cut) c k = .inr (x, nx)) ∨ (cut < nx ∧ charL (s.take cut) c k = .inl (cut, 4)) := by
  have hl := len_take hc
  unfold charL at h ⊢
  split at h
  · rename_i h92
    rw [if_pos h92]
    unfold escL at h ⊢
    rcases Nat.lt_or_ge (k + 1) cut with h1 | h1
    · rw [get_take h1]
      cases ha : s[k + 1]? with
      | none => rw [ha] at h; cases h
      | some a =>
        rw [ha] at h
        dsimp only at h ⊢
        split at h
        · rename_i h2
          rw [if_pos h2]
          injection h with h; injection h with h3 h4
          exact .inl ⟨by omega, by rw [h3, h4]⟩
        · rename_i h2
          rw [if_neg h2]
          split at h
          · rename_i h3
            rw [if_pos h3]
            injection h with h; injection h with h3 h4
            exact .inl ⟨by omega, by rw [h3, h4]⟩
          · rename_i h3
            rw [if_neg h3]
            split at h
            · rename_i h4
              rw [if_pos h4]
              exact hex_take hc h
            · cases h
    · rw [get_take_none h1, hl]
      have h2 := charL_next (s := s) (c := c) (k := k) (x := x) (nx := nx) (by unfold charL escL; rw [if_pos h92]; exact h)
      refine .inr ⟨?_, rfl⟩
      split at h
      · cases h
      · split at h
        · injection h with h; injection h with h3 h4; omega
        · split at h
          · injection h with h; injection h with h3 h4; omega
          · split at h
            · unfold hex2 at h
              split at h
              · cases h
              · split at h
                · cases h
                · split at h
                  · cases h
                  · split at h
                    · cases h
                    · injection h with h; injection h with h3 h4; omega
            · cases h
  · rename_i h92
    rw [if_neg h92]
    injection h with h; injection h with h3 h4
    exact .inl ⟨by omega, by rw [h3, h4]⟩
theorem text_take (hc : cut ≤ s.length) (i : Nat) : ∀ (n k : Nat) (b : List UInt8), k ≤ cut → (textN n s i k b).2.2.2 = 0 → ∀ m, cut ≤ m + k →
    ((textN n s i k b).2.1 ≤ cut ∧ textN m (s.take cut) i k b = textN n s i k b) ∨ (cut < (textN n s i k b).2.1 ∧ textN m (s.take cut) i k b = ([], 0, cut, 4))
  | 0, k, b, hk, h, m, hm => by cases h
  | n + 1, k, b, hk, h, m, hm => by
    have hl := len_take hc
    have hend := textN_end s i (n + 1) k b h
    rcases Nat.lt_or_ge k cut with h1 | h1
    · cases m with
      | zero => omega
      | succ m =>
        rw [show textN (m + 1) (s.take cut) i k b = _ from by unfold textN; rfl, get_take h1]
        obtain ⟨F, hF⟩ : ∃ F, F = textN m := ⟨_, rfl⟩
        rw [← hF]
        unfold textN at h hend ⊢
        cases hcc : s[k]? with
        | none => rw [hcc] at h; cases h
        | some c =>
          rw [hcc] at h hend
          dsimp only at h hend ⊢
          split at h
          · rename_i h34
            rw [if_pos h34]
            exact .inl ⟨by show k + 1 ≤ cut; omega, by rw [if_pos h34]⟩
          · rename_i h34
            rw [if_neg h34] at hend ⊢
            rw [if_neg h34]
            split at h
            · cases h
            · rename_i hbad
              rw [if_neg hbad] at hend ⊢
              rw [if_neg hbad]
              rcases hch : charL s c k with ⟨q, e⟩ | ⟨x, nx⟩
              · rw [hch] at h; exact absurd h (char_err hch)
              · rw [hch] at h hend
                dsimp only at h hend ⊢
                split at h
                · cases h
                · rename_i h4
                  rw [if_neg h4] at hend ⊢
                  rcases char_take hc h1 hch with ⟨h5, h6⟩ | ⟨h5, h6⟩
                  · rw [h6]
                    dsimp only
                    rw [if_neg h4]
                    rw [hF]
                    exact text_take hc i n nx _ h5 h m (by have := (charL_next hch).1; omega)
                  · rw [h6]
                    have := textN_end s i n nx _ h
                    exact .inr ⟨by omega, rfl⟩
    · obtain rfl : k = cut := by omega
      refine .inr ⟨hend.1, ?_⟩
      cases m with
      | zero => unfold textN; rw [hl]
      | succ m => unfold textN; rw [get_take_none (Nat.le_refl _), hl]
theorem num_take (hc : cut ≤ s.length) {i : Nat} (hi : i < cut) (h : (numL s i).2.2.2 = 0) : (scan digB s i ≤ cut → numL (s.take cut) i = numL s i) ∧ (cut < scan digB s i → numL (s.take cut) i = (val (cutL s i cut), cut, 0, 0)) := by
  obtain ⟨h1, h2, h3⟩ := numL_ok h
  have hl := len_take hc
  have hsc := scan_take digB s (Nat.le_of_lt hi)
  refine ⟨fun hle => ?_, fun hlt => ?_⟩
  · rw [Nat.min_eq_left hle] at hsc
    have hcu : cutL (s.take cut) i (scan digB s i) = cutL s i (scan digB s i) := cut_take s hle
    have h48 : i + 1 < scan digB s i → (s.take cut)[i]? ≠ some 48 := fun h4 h5 => h2 ⟨by rw [← get_take hi]; exact h5, h4⟩
    rcases Nat.lt_or_ge (scan digB s i) cut with h4 | h4
    · rw [numL_next hsc h48 (by rw [hcu]; exact h3) (by rw [hl]; exact h4), hcu, h1, if_neg]
      have h5 : scan digB s i < s.length := by omega
      have e : (s.take cut)[scan digB s i]'(by rw [hl]; exact h4) = s[scan digB s i] := List.getElem_take
      rw [e]
      intro h6
      unfold numL at h
      rw [if_neg h2, if_neg (by omega), dif_pos h5, if_pos h6] at h
      cases h
    · rw [numL_end hsc h48 (by rw [hcu]; exact h3) (by rw [hl]; exact h4), hcu, h1]
  · rw [Nat.min_eq_right (Nat.le_of_lt hlt)] at hsc
    have hcu : cutL (s.take cut) i cut = cutL s i cut := cut_take s (Nat.le_refl _)
    have hmo := val_mono (cutL s i cut) (cutL s cut (scan digB s i))
    have hle := scan_le digB s (i := i) (by omega)
    rw [← cut_more s (Nat.le_of_lt hi) (Nat.le_of_lt hlt) hle] at hmo
    rw [numL_end hsc (fun h4 h5 => h2 ⟨by rw [← get_take hi]; exact h5, by omega⟩) (by rw [hcu]; omega) (by rw [hl]; exact Nat.le_refl _), hcu]
/-- Digits whose number is no greater than this, with no 0 ahead, are at most 19. -/
theorem valx_ge : ∀ (m : List UInt8) (x : Nat), x * 10 ^ m.length ≤ m.foldl (fun x c => 10 * x + (c.toNat - 48)) x
  | [], x => by simp
  | c :: m, x => by
    rw [List.foldl_cons, List.length_cons, Nat.pow_succ, Nat.mul_comm (10 ^ m.length) 10, ← Nat.mul_assoc, Nat.mul_comm x 10]
    exact Nat.le_trans (Nat.mul_le_mul_right _ (Nat.le_add_right (10 * x) _)) (valx_ge m _)
theorem num_len {i : Nat} {c : UInt8} (hi : s[i]? = some c) (hd : digB c = true) (h : (numL s i).2.2.2 = 0) : scan digB s i ≤ i + 19 := by
  obtain ⟨_, h2, h3⟩ := numL_ok h
  have hlt := (List.getElem?_eq_some_iff.1 hi).1
  have hci : s[i] = c := by rw [List.getElem?_eq_getElem hlt] at hi; injection hi
  have hst := scan_step digB s hlt (by rw [hci]; exact hd)
  have hge := scan_ge digB s (i + 1)
  have hle := scan_le digB s (i := i) (by omega)
  by_cases h1 : i + 1 < scan digB s i
  · have h48 : c ≠ 48 := fun e => h2 ⟨by rw [hi, e], h1⟩
    have hc1 : 1 ≤ c.toNat - 48 := by
      unfold digB at hd
      simp only [Bool.and_eq_true, decide_eq_true_eq] at hd
      have : c.toNat ≠ 48 := fun e => h48 (UInt8.toNat_inj.1 e)
      omega
    rw [cut_more s (Nat.le_succ i) (by omega : i + 1 ≤ scan digB s i) hle, cut_next s (Nat.le_refl _) hlt, cut_self, hci] at h3
    have h4 := Nat.le_trans (Nat.le_mul_of_pos_left (10 ^ (cutL s (i + 1) (scan digB s i)).length) (show 0 < 10 * 0 + (c.toNat - 48) by omega)) (valx_ge (cutL s (i + 1) (scan digB s i)) (10 * 0 + (c.toNat - 48)))
    have h5 : val (([] ++ [c]) ++ cutL s (i + 1) (scan digB s i)) = (cutL s (i + 1) (scan digB s i)).foldl (fun x c => 10 * x + (c.toNat - 48)) (10 * 0 + (c.toNat - 48)) := by
      unfold val
      rw [List.nil_append, List.singleton_append, List.foldl_cons]
    rw [h5] at h3
    have h6 : (cutL s (i + 1) (scan digB s i)).length = scan digB s i - (i + 1) := by
      unfold cutL
      rw [List.length_drop, List.length_take]
      omega
    rw [h6] at h4
    by_cases h7 : scan digB s i ≤ i + 19
    · exact h7
    · exfalso
      have h8 : 10 ^ 19 ≤ 10 ^ (scan digB s i - (i + 1)) := Nat.pow_le_pow_right (by omega) (by omega)
      have h9 : (10 : Nat) ^ 19 = 10000000000000000000 := by decide
      omega
  · omega
theorem oneL_place {i : Nat} {c : UInt8} {t : Tok} {e : Nat} (h : oneL s i c = .inr (t, e)) : t.place = i := by
  unfold oneL at h
  split at h
  · unfold wordL at h
    split at h
    · cases h
    · injection h with h; injection h with h _; rw [← h]
  · split at h
    · unfold numT at h
      split at h
      · injection h with h; injection h with h _; rw [← h]
      · cases h
    · split at h
      · unfold textT at h
        split at h
        · injection h with h; injection h with h _; rw [← h]
        · cases h
      · unfold signL at h
        split at h
        · cases h
        · split at h
          · cases h
          · split at h
            · split at h
              · injection h with h; injection h with h _; rw [← h]
              · injection h with h; injection h with h _; rw [← h]
            · cases h
theorem one_take (hc : cut ≤ s.length) {i : Nat} {c : UInt8} (hi : i < cut) (hci : s[i]? = some c) {t : Tok} {e : Nat} (h : oneL s i c = .inr (t, e)) :
    (e ≤ cut ∧ oneL (s.take cut) i c = .inr (t, e)) ∨ (oneL (s.take cut) i c = .inl (cut, 4)) ∨ (∃ t', oneL (s.take cut) i c = .inr (t', cut) ∧ t'.place = i ∧ cut ≤ i + 24) := by
  have hl := len_take hc
  unfold oneL at h ⊢
  split at h
  · rename_i h1
    rw [if_pos h1]
    unfold wordL at h ⊢
    have hsc := scan_take innB s (Nat.le_of_lt hi)
    split at h
    · cases h
    · rename_i h2
      injection h with h; injection h with h3 h4
      rcases Nat.le_total e cut with h5 | h5
      · rw [h4, Nat.min_eq_left h5] at hsc
        rw [hsc, cut_take s h5, if_neg (by omega), ← h3, h4]
        exact .inl ⟨h5, rfl⟩
      · rw [h4, Nat.min_eq_right h5] at hsc
        rw [hsc, if_neg (by omega)]
        exact .inr (.inr ⟨_, rfl, rfl, by omega⟩)
  · rename_i h1
    rw [if_neg h1]
    split at h
    · rename_i h2
      rw [if_pos h2]
      unfold numT at h ⊢
      split at h
      · rename_i h0
        have h5 := num_take hc hi h0
        obtain ⟨h6, _, _⟩ := numL_ok h0
        have h7 := num_len hci h2 h0
        injection h with h; injection h with h3 h4
        rw [h6] at h4
        dsimp only at h4
        rcases Nat.lt_or_ge cut (scan digB s i) with h8 | h8
        · rw [h5.2 h8, if_pos rfl]
          exact .inr (.inr ⟨_, rfl, rfl, by omega⟩)
        · rw [h5.1 h8, if_pos h0, h3, h6]
          exact .inl ⟨by omega, by rw [h4]⟩
      · cases h
    · rename_i h2
      rw [if_neg h2]
      split at h
      · rename_i h3
        rw [if_pos h3]
        unfold textT at h ⊢
        split at h
        · rename_i h0
          have h5 := text_take hc i s.length (i + 1) [] (by omega) h0 (s.take cut).length (by rw [hl]; omega)
          have e1 : textL s i (i + 1) [] = textN s.length s i (i + 1) [] := rfl
          have e2 : textL (s.take cut) i (i + 1) [] = textN (s.take cut).length (s.take cut) i (i + 1) [] := rfl
          rw [e1] at h h0
          rw [e2]
          injection h with h; injection h with h6 h7
          rcases h5 with ⟨h8, h9⟩ | ⟨h8, h9⟩
          · rw [h9, if_pos h0, h6, h7]
            exact .inl ⟨by omega, rfl⟩
          · rw [h9, if_neg (show ¬ ((4 : Nat) = 0) from by decide)]
            exact .inr (.inl rfl)
        · cases h
      · rename_i h3
        rw [if_neg h3]
        unfold signL at h ⊢
        rw [hl]
        split at h
        · cases h
        · rename_i h4
          split at h
          · cases h
          · rename_i h5
            split at h
            · rename_i h6
              rcases Nat.lt_or_ge (i + 1) cut with h7 | h7
              · rw [if_neg (fun hh => by have := hh.2; omega), get_take h7, if_neg h5, if_pos h6]
                split at h
                · rename_i h8
                  rw [if_pos h8, cut_take s (by omega)]
                  injection h with h; injection h with h9 h10
                  exact .inl ⟨by omega, by rw [h9, h10]⟩
                · rename_i h8
                  rw [if_neg h8, cut_take s (by omega)]
                  injection h with h; injection h with h9 h10
                  exact .inl ⟨by omega, by rw [h9, h10]⟩
              · obtain rfl : cut = i + 1 := by omega
                by_cases h33 : c = 33
                · rw [if_pos ⟨h33, Nat.le_refl _⟩]
                  exact .inr (.inl rfl)
                · rw [if_neg (fun hh => h33 hh.1), if_neg (fun hh => h33 hh.1), if_pos h6, get_take_none (Nat.le_refl _), if_neg (fun hh => by cases hh.2)]
                  exact .inr (.inr ⟨_, rfl, rfl, by omega⟩)
            · cases h
theorem all_pre (s : List UInt8) : ∀ (d i : Nat) (l lf : List Tok), s.length - i ≤ d → allL s i l = (lf, 0, 0) → ∃ b, lf = l ++ b
  | d, i, l, lf, hd, h => by
    rw [allL_step] at h
    cases hc : s[i]? with
    | none =>
      rw [hc] at h
      injection h with h _
      exact ⟨[], by rw [← h]; simp⟩
    | some c =>
      have hi := (List.getElem?_eq_some_iff.1 hc).1
      rw [hc] at h
      dsimp only at h
      cases d with
      | zero => omega
      | succ d =>
        split at h
        · exact all_pre s d (i + 1) l lf (by omega) h
        · split at h
          · have := scan_ge notNl s (i + 1)
            exact all_pre s d _ l lf (by omega) h
          · rcases ho : oneL s i c with ⟨q, e⟩ | ⟨t, e⟩
            · rw [ho] at h
              dsimp only at h
              injection h with _ h; injection h with _ h
              exact absurd h (one_err' ho)
            · rw [ho] at h
              have hn := oneL_next hc ho
              obtain ⟨b, hb⟩ := all_pre s d e _ lf (by omega) h
              exact ⟨t :: b, by rw [hb]; simp⟩
theorem all_take (hc : cut ≤ s.length) : ∀ (d i : Nat) (acc lf : List Tok), cut - i ≤ d → i ≤ cut → allL s i acc = (lf, 0, 0) → (∀ t ∈ acc, t.place < cut) →
    allL (s.take cut) i acc = ([], cut, 4) ∨ ∃ a b c, lf = a ++ b ∧ allL (s.take cut) i acc = (a ++ c, 0, 0) ∧ (∀ t ∈ a, t.place < cut) ∧ (∀ t ∈ c, t.place < cut ∧ cut ≤ t.place + 24) ∧ c.length ≤ 1
  | d, i, acc, lf, hd, hi, h, hacc => by
    have fin : ∀ x : List Tok, allL (s.take cut) cut x = (x, 0, 0) := fun x => by rw [allL_step, get_take_none (Nat.le_refl _)]
    rcases Nat.lt_or_ge i cut with h1 | h1
    · cases d with
      | zero => omega
      | succ d =>
        obtain ⟨c, hci⟩ : ∃ c, s[i]? = some c := ⟨_, List.getElem?_eq_getElem (by omega)⟩
        have h0 := h
        rw [allL_step, hci] at h
        rw [allL_step, get_take h1, hci]
        dsimp only at h ⊢
        split at h
        · rename_i h2
          rw [if_pos h2]
          exact all_take hc d (i + 1) acc lf (by omega) (by omega) h hacc
        · rename_i h2
          rw [if_neg h2]
          split at h
          · rename_i h3
            rw [if_pos h3, scan_take notNl s (by omega)]
            have h4 := scan_ge notNl s (i + 1)
            rcases Nat.lt_or_ge cut (scan notNl s (i + 1)) with h5 | h5
            · rw [Nat.min_eq_right (by omega), fin]
              obtain ⟨b, hb⟩ := all_pre s s.length i acc lf (by omega) h0
              exact .inr ⟨acc, b, [], hb, by simp, hacc, by simp, by simp⟩
            · rw [Nat.min_eq_left h5]
              exact all_take hc d _ acc lf (by omega) h5 h hacc
          · rename_i h3
            rw [if_neg h3]
            rcases ho : oneL s i c with ⟨q, e⟩ | ⟨t, e⟩
            · rw [ho] at h
              dsimp only at h
              injection h with _ h; injection h with _ h
              exact absurd h (one_err' ho)
            · rw [ho] at h
              have hn := oneL_next hci ho
              have hp := oneL_place ho
              rcases one_take hc h1 hci ho with ⟨h4, h5⟩ | h5 | ⟨t', h5, h6, h7⟩
              · rw [h5]
                exact all_take hc d e _ lf (by omega) h4 h (fun u hu => by
                  rcases List.mem_append.1 hu with hu | hu
                  · exact hacc u hu
                  · rw [List.mem_singleton] at hu; rw [hu]; omega)
              · rw [h5]
                exact .inl rfl
              · rw [h5]
                dsimp only
                rw [fin]
                obtain ⟨b, hb⟩ := all_pre s s.length i acc lf (by omega) h0
                exact .inr ⟨acc, b, [t'], hb, rfl, hacc, fun u hu => by rw [List.mem_singleton] at hu; subst hu; omega, by simp⟩
    · obtain rfl : i = cut := by omega
      rw [fin]
      obtain ⟨b, hb⟩ := all_pre s s.length i acc lf (by omega) h
      exact .inr ⟨acc, b, [], hb, by simp, hacc, by simp, by simp⟩
end
/-! Where faults lie. -/
section
variable {s : List UInt8}
theorem hex_pos {k q e : Nat} (h : hex2 s k = .inl (q, e)) : q ≤ s.length ∧ (e = 4 → q = s.length) := by
  unfold hex2 at h
  split at h
  · injection h with h; injection h with h1 h2; omega
  · rename_i a ha
    have := (List.getElem?_eq_some_iff.1 ha).1
    split at h
    · injection h with h; injection h with h1 h2; omega
    · split at h
      · injection h with h; injection h with h1 h2; omega
      · rename_i b hb
        have := (List.getElem?_eq_some_iff.1 hb).1
        split at h
        · injection h with h; injection h with h1 h2; omega
        · cases h
theorem char_pos {c : UInt8} {k q e : Nat} (h : charL s c k = .inl (q, e)) : q ≤ s.length ∧ (e = 4 → q = s.length) := by
  unfold charL at h
  split at h
  · unfold escL at h
    split at h
    · injection h with h; injection h with h1 h2; omega
    · rename_i a ha
      have := (List.getElem?_eq_some_iff.1 ha).1
      split at h
      · cases h
      · split at h
        · cases h
        · split at h
          · exact hex_pos h
          · injection h with h; injection h with h1 h2; omega
  · cases h
theorem text_pos (i : Nat) (hi : i ≤ s.length) : ∀ (n k : Nat) (b : List UInt8), (textN n s i k b).2.2.2 ≠ 0 → (textN n s i k b).2.2.1 ≤ s.length ∧ ((textN n s i k b).2.2.2 = 4 → (textN n s i k b).2.2.1 = s.length)
  | 0, k, b, h => ⟨Nat.le_refl _, fun _ => rfl⟩
  | n + 1, k, b, h => by
    unfold textN at h ⊢
    cases hc : s[k]? with
    | none => exact ⟨Nat.le_refl _, fun _ => rfl⟩
    | some c =>
      have hk := (List.getElem?_eq_some_iff.1 hc).1
      rw [hc] at h
      dsimp only at h ⊢
      split at h
      · exact absurd rfl h
      · rename_i h1
        rw [if_neg h1]
        split at h
        · rename_i h2
          rw [if_pos h2]
          exact ⟨Nat.le_of_lt hk, fun h => by cases h⟩
        · rename_i h2
          rw [if_neg h2]
          rcases hch : charL s c k with ⟨q, e⟩ | ⟨x, nx⟩
          · exact char_pos hch
          · rw [hch] at h
            dsimp only at h ⊢
            split at h
            · rename_i h3
              rw [if_pos h3]
              exact ⟨hi, fun h => by cases h⟩
            · rename_i h3
              rw [if_neg h3]
              exact text_pos i hi n nx _ h
theorem one_pos {i : Nat} {c : UInt8} (hc : s[i]? = some c) {q e : Nat} (h : oneL s i c = .inl (q, e)) : q ≤ s.length ∧ (e = 4 → q = s.length) := by
  have hi := (List.getElem?_eq_some_iff.1 hc).1
  have hle := scan_le digB s (i := i) (by omega)
  unfold oneL at h
  split at h
  · unfold wordL at h
    split at h
    · injection h with h; injection h with h1 h2; omega
    · cases h
  · split at h
    · unfold numT at h
      split at h
      · cases h
      · rename_i h0
        injection h with h; injection h with h1 h2
        rw [← h1, ← h2]
        unfold numL at h0 ⊢
        split
        · rename_i h3; exact ⟨by show i + 1 ≤ s.length; omega, fun h => by cases h⟩
        · split
          · exact ⟨by show i ≤ s.length; omega, fun h => by cases h⟩
          · rename_i h3 h4
            rw [if_neg h3, if_neg h4] at h0
            split
            · rename_i h5
              rw [dif_pos h5] at h0
              split
              · exact ⟨by show scan digB s i ≤ s.length; omega, fun h => by cases h⟩
              · rename_i h6; rw [if_neg h6] at h0; exact absurd rfl h0
            · rename_i h5
              rw [dif_neg h5] at h0; exact absurd rfl h0
    · split at h
      · unfold textT at h
        split at h
        · cases h
        · rename_i h0
          injection h with h; injection h with h1 h2
          rw [← h1, ← h2]
          exact text_pos i (by omega) s.length (i + 1) [] h0
      · unfold signL at h
        split at h
        · rename_i h3
          injection h with h; injection h with h1 h2; have := h3.2; omega
        · rename_i h3
          split at h
          · rename_i h4
            have h5 : ¬ s.length ≤ i + 1 := fun hh => h3 ⟨h4.1, hh⟩
            injection h with h; injection h with h1 h2; omega
          · split at h
            · split at h <;> cases h
            · injection h with h; injection h with h1 h2; omega
theorem all_pos : ∀ (n i : Nat) (acc : List Tok), (∀ t ∈ acc, t.place < s.length) →
    (∀ t ∈ (allN n s i acc).1, t.place < s.length) ∧ (allN n s i acc).2.1 ≤ s.length ∧ ((allN n s i acc).2.2 = 4 → (allN n s i acc).2.1 = s.length)
  | 0, i, acc, h => ⟨h, Nat.zero_le _, fun h => by cases h⟩
  | n + 1, i, acc, h => by
    unfold allN
    split
    · exact ⟨h, Nat.zero_le _, fun h => by cases h⟩
    · rename_i c hc
      have hi := (List.getElem?_eq_some_iff.1 hc).1
      split
      · exact all_pos n _ acc h
      · split
        · exact all_pos n _ acc h
        · split
          · rename_i q e ho
            have := one_pos hc ho
            exact ⟨by simp, this⟩
          · rename_i t e ho
            refine all_pos n e _ (fun u hu => ?_)
            rcases List.mem_append.1 hu with hu | hu
            · exact h u hu
            · rw [List.mem_singleton] at hu
              rw [hu, oneL_place ho]
              exact hi
end
theorem src_pos (s : List UInt8) : (∀ t ∈ (srcL s).1, t.place < s.length) ∧ (srcL s).2.1 ≤ s.length ∧ ((srcL s).2.2 = 4 → (srcL s).2.1 = s.length) := by
  unfold srcL
  split
  · exact ⟨by simp, Nat.zero_le _, fun h => by cases h⟩
  · exact all_pos s.length 0 [] (by simp)
theorem src_take {s : List UInt8} {cut : Nat} (hc : cut ≤ s.length) {lf : List Tok} (h : srcL s = (lf, 0, 0)) :
    srcL (s.take cut) = ([], cut, 4) ∨ ∃ a b c, lf = a ++ b ∧ srcL (s.take cut) = (a ++ c, 0, 0) ∧ (∀ t ∈ a, t.place < cut) ∧ (∀ t ∈ c, t.place < cut ∧ cut ≤ t.place + 24) ∧ c.length ≤ 1 := by
  unfold srcL at h ⊢
  rw [len_take hc]
  split at h
  · cases h
  · rw [if_neg (by omega)]
    exact all_take hc cut 0 [] lf (by omega) (by omega) h (by simp)
end Go.Proofs.Ytbcadlocldplfaa
namespace Go.Proofs.Ytbcadlocldplfaa

/-- What is told of a token besides its place. -/
def zkey (x : Tz) : Nat × ByteArray × Int := (x.kind, x.text, x.int)
/-- How two lists of tokens may be alike (r), and when nothing is said any more (e1, e2). -/
structure Like (r : List Tz → List Tz → Prop) (e1 e2 : List Tz → Prop) : Prop where
  look : ∀ {l l2}, r l l2 → l.head?.map zkey = l2.head?.map zkey
  tail : ∀ {l l2}, r l l2 → r l.tail l2.tail ∨ (e1 l.tail ∧ e2 l2.tail)
  t1 : ∀ {l}, e1 l → e1 l.tail
  t2 : ∀ {l}, e2 l → e2 l.tail
def Esc {α : Type} (e : List Tz → Prop) : Pr α → Prop
  | .out => True
  | .bad l => e l
  | .ok _ l _ => e l
def Res {α : Type} (r : List Tz → List Tz → Prop) (e1 e2 : List Tz → Prop) (x y : Pr α) : Prop :=
  (∃ t l l2 m, x = .ok t l m ∧ y = .ok t l2 m ∧ r l l2) ∨ (∃ l l2, x = .bad l ∧ y = .bad l2 ∧ r l l2) ∨ (Esc e1 x ∧ Esc e2 y)
/-- Reads alike what is alike. -/
structure Gd {α : Type} (r : List Tz → List Tz → Prop) (e1 e2 : List Tz → Prop) (f : List Tz → Pr α) : Prop where
  u1 : ∀ l, e1 l → Esc e1 (f l)
  u2 : ∀ l, e2 l → Esc e2 (f l)
  b : ∀ l l2, r l l2 → Res r e1 e2 (f l) (f l2)
section
variable {r : List Tz → List Tz → Prop} {e1 e2 : List Tz → Prop} {α β : Type}
theorem Like.isT (h : Like r e1 e2) {l l2 : List Tz} (hr : r l l2) (s : List UInt8) : isT s l = isT s l2 := by
  have hl := h.look hr
  cases l with
  | nil => cases l2 with
    | nil => rfl
    | cons y t => cases hl
  | cons x t => cases l2 with
    | nil => cases hl
    | cons y t2 =>
      simp only [List.head?_cons, Option.map_some, Option.some.injEq, zkey, Prod.mk.injEq] at hl
      show ((decide (x.kind = 1) || decide (x.kind = 4)) && decide (x.text.data.toList = s)) = ((decide (y.kind = 1) || decide (y.kind = 4)) && decide (y.text.data.toList = s))
      rw [hl.1, hl.2.1]
theorem Like.mineT (h : Like r e1 e2) {l l2 : List Tz} (hr : r l l2) : mineT l = mineT l2 := by
  have hl := h.look hr
  cases l with
  | nil => cases l2 with
    | nil => rfl
    | cons y t => cases hl
  | cons x t => cases l2 with
    | nil => cases hl
    | cons y t2 =>
      simp only [List.head?_cons, Option.map_some, Option.some.injEq, zkey, Prod.mk.injEq] at hl
      show (decide (x.kind = 1) && !kwB x.text) = (decide (y.kind = 1) && !kwB y.text)
      rw [hl.1, hl.2.1]
theorem Esc.add {e : List Tz → Prop} {x : Pr α} (h : Esc e x) (m : Bool) : Esc e (x.add m) := by cases x <;> exact h
theorem Esc.bind {e : List Tz → Prop} {x : Pr α} {f : α → List Tz → Pr β} (h : Esc e x) (hf : ∀ a l, e l → Esc e (f a l)) : Esc e (x.bind f) := by
  cases x with
  | out => trivial
  | bad l => exact h
  | ok a l m => exact (hf a l h).add m
theorem Res.add {x y : Pr α} (h : Res r e1 e2 x y) (m : Bool) : Res r e1 e2 (x.add m) (y.add m) := by
  rcases h with ⟨t, l, l2, m', rfl, rfl, h⟩ | ⟨l, l2, rfl, rfl, h⟩ | ⟨h1, h2⟩
  · exact .inl ⟨t, l, l2, _, rfl, rfl, h⟩
  · exact .inr (.inl ⟨l, l2, rfl, rfl, h⟩)
  · exact .inr (.inr ⟨h1.add m, h2.add m⟩)
theorem Gd.bind {f : List Tz → Pr α} {g : α → List Tz → Pr β} (hf : Gd r e1 e2 f) (hg : ∀ a, Gd r e1 e2 (g a)) : Gd r e1 e2 (fun l => (f l).bind (g)) where
  u1 l h := (hf.u1 l h).bind fun a l h => (hg a).u1 l h
  u2 l h := (hf.u2 l h).bind fun a l h => (hg a).u2 l h
  b l l2 h := by
    rcases hf.b l l2 h with ⟨t, l', l2', m', h1, h2, h3⟩ | ⟨l', l2', h1, h2, h3⟩ | ⟨h1, h2⟩
    · simp only [h1, h2, Pr.bind_ok]
      exact ((hg t).b _ _ h3).add m'
    · simp only [h1, h2]
      exact .inr (.inl ⟨_, _, rfl, rfl, h3⟩)
    · exact .inr (.inr ⟨h1.bind fun a l h => (hg a).u1 l h, h2.bind fun a l h => (hg a).u2 l h⟩)
theorem Gd.ok (a : α) (m : Bool) : Gd r e1 e2 (fun l => Pr.ok a l m) := ⟨fun _ h => h, fun _ h => h, fun l l2 h => .inl ⟨a, l, l2, m, rfl, rfl, h⟩⟩
theorem Gd.bad : Gd r e1 e2 (fun l => (Pr.bad l : Pr α)) := ⟨fun _ h => h, fun _ h => h, fun l l2 h => .inr (.inl ⟨l, l2, rfl, rfl, h⟩)⟩
theorem Gd.out : Gd r e1 e2 (fun _ => (Pr.out : Pr α)) := ⟨fun _ _ => trivial, fun _ _ => trivial, fun _ _ _ => .inr (.inr ⟨trivial, trivial⟩)⟩
theorem Gd.tail (h : Like r e1 e2) {f : List Tz → Pr α} (hf : Gd r e1 e2 f) : Gd r e1 e2 (fun l => f l.tail) where
  u1 l hl := hf.u1 _ (h.t1 hl)
  u2 l hl := hf.u2 _ (h.t2 hl)
  b l l2 hr := by
    rcases h.tail hr with h1 | ⟨h1, h2⟩
    · exact hf.b _ _ h1
    · exact .inr (.inr ⟨hf.u1 _ h1, hf.u2 _ h2⟩)
theorem Gd.okt (h : Like r e1 e2) (a : α) (m : Bool) : Gd r e1 e2 (fun l => Pr.ok a l.tail m) := (Gd.ok a m).tail h
theorem Gd.ite {b : List Tz → Bool} (hb : ∀ l l2, r l l2 → b l = b l2) {f g : List Tz → Pr α} (hf : Gd r e1 e2 f) (hg : Gd r e1 e2 g) : Gd r e1 e2 (fun l => if b l = true then f l else g l) where
  u1 l hl := by
    show Esc e1 (if b l = true then f l else g l)
    split
    · exact hf.u1 l hl
    · exact hg.u1 l hl
  u2 l hl := by
    show Esc e2 (if b l = true then f l else g l)
    split
    · exact hf.u2 l hl
    · exact hg.u2 l hl
  b l l2 hr := by
    show Res r e1 e2 (if b l = true then f l else g l) (if b l2 = true then f l2 else g l2)
    rw [hb l l2 hr]
    split
    · exact hf.b l l2 hr
    · exact hg.b l l2 hr
theorem Gd.isT (h : Like r e1 e2) {s : List UInt8} {f g : List Tz → Pr α} (hf : Gd r e1 e2 f) (hg : Gd r e1 e2 g) : Gd r e1 e2 (fun l => if Ytbcadlocldplfaa.isT s l = true then f l else g l) := Gd.ite (b := fun l => Ytbcadlocldplfaa.isT s l) (fun _ _ hr => h.isT hr s) hf hg
theorem Gd.mineT (h : Like r e1 e2) {f g : List Tz → Pr α} (hf : Gd r e1 e2 f) (hg : Gd r e1 e2 g) : Gd r e1 e2 (fun l => if Ytbcadlocldplfaa.mineT l = true then f l else g l) := Gd.ite (b := fun l => Ytbcadlocldplfaa.mineT l) (fun _ _ hr => h.mineT hr) hf hg
theorem Gd.must (h : Like r e1 e2) (s : List UInt8) : Gd r e1 e2 (mustP s) := (Gd.okt h () false).isT h Gd.bad
theorem Gd.of (x : Tw) (ts : List (List Tw)) : Gd r e1 e2 (ofP x ts) := by
  have e : ofP x ts = fun l => Pr.ok (if 2048 < 1 + ts.flatten.length then [{ x with kids := (ts.length : Nat) }] else { x with kids := (ts.length : Nat) } :: ts.flatten) l (decide (2048 < 1 + ts.flatten.length)) := by
    funext l
    unfold ofP
    split
    · rename_i hh; rw [decide_eq_true hh]
    · rename_i hh; rw [decide_eq_false hh]
  rw [e]
  exact Gd.ok _ _
theorem Gd.own (h : Like r e1 e2) : Gd r e1 e2 ownP where
  u1 l hl := by
    unfold ownP
    split
    · exact h.t1 hl
    · exact hl
  u2 l hl := by
    unfold ownP
    split
    · exact h.t2 hl
    · exact hl
  b l l2 hr := by
    unfold ownP
    rw [h.mineT hr]
    have hl := h.look hr
    split
    · rename_i hm
      cases l2 with
      | nil => cases hm
      | cons y t2 => cases l with
        | nil => cases hl
        | cons x t =>
          simp only [List.head?_cons, Option.map_some, Option.some.injEq, zkey, Prod.mk.injEq] at hl
          simp only [List.map_cons, List.headD_cons, hl.2.1]
          rcases h.tail hr with h1 | ⟨h1, h2⟩
          · exact .inl ⟨_, _, _, _, rfl, rfl, h1⟩
          · exact .inr (.inr ⟨h1, h2⟩)
    · exact .inr (.inl ⟨_, _, rfl, rfl, hr⟩)
theorem Gd.left (h : Like r e1 e2) {f : List Tz → Pr (List Tw)} (hf : Gd r e1 e2 f) (v : List (List UInt8 × Nat)) (once : Bool) : ∀ (n : Nat) (t : List Tw), Gd r e1 e2 (leftP f v once n t)
  | 0, t => Gd.out
  | n + 1, t => by
    have ih := fun t => Gd.left h hf v once n t
    have body : ∀ p : List UInt8 × Nat, Gd r e1 e2 (fun l => (f l.tail).bind fun u l1 => (ofP (tw p.2) [t, u] l1).bind fun t2 l2 => if once then .ok t2 l2 false else leftP f v once n t2 l2) := fun p =>
      (hf.tail h).bind fun u => (Gd.of _ _).bind fun t2 => by
        cases once
        · exact ih t2
        · exact Gd.ok t2 false
    have e : ∀ l, leftP f v once (n + 1) t l = match v.find? (fun p => Ytbcadlocldplfaa.isT p.1 l) with
        | none => .ok t l false
        | some p => (f l.tail).bind fun u l1 => (ofP (tw p.2) [t, u] l1).bind fun t2 l2 => if once then .ok t2 l2 false else leftP f v once n t2 l2 := fun l => by rw [leftP]; cases List.find? (fun p => Ytbcadlocldplfaa.isT p.1 l) v <;> rfl
    refine ⟨fun l hl => ?_, fun l hl => ?_, fun l l2 hr => ?_⟩
    · rw [e]
      split
      · exact hl
      · exact (body _).u1 l hl
    · rw [e]
      split
      · exact hl
      · exact (body _).u2 l hl
    · rw [e, e, show (fun p : List UInt8 × Nat => Ytbcadlocldplfaa.isT p.1 l) = fun p => Ytbcadlocldplfaa.isT p.1 l2 from funext fun p => h.isT hr p.1]
      split
      · exact .inl ⟨_, _, _, _, rfl, rfl, hr⟩
      · exact (body _).b l l2 hr
theorem Gd.listG (h : Like r e1 e2) {f : List Tz → Pr (List Tw)} (hf : Gd r e1 e2 f) (s : List UInt8) : ∀ (n : Nat) (acc : List (List Tw)), Gd r e1 e2 (listP f s n acc)
  | 0, acc => Gd.out
  | n + 1, acc => by
    have ih := fun acc => Gd.listG h hf s n acc
    have e : listP f s (n + 1) acc = fun l => (f l).bind fun t l1 => if Ytbcadlocldplfaa.isT s l1 then .ok (acc ++ [t]) l1.tail false else (mustP [44] l1).bind fun _ l2 => listP f s n (acc ++ [t]) l2 := by funext l; rw [listP]
    rw [e]
    exact hf.bind fun t => (Gd.okt h _ _).isT h ((Gd.must h _).bind fun _ => ih _)
theorem Gd.lis (h : Like r e1 e2) {f : List Tz → Pr (List Tw)} (hf : Gd r e1 e2 f) (s : List UInt8) (n : Nat) : Gd r e1 e2 (lisP f s n) :=
  (Gd.okt h _ _).isT h (Gd.listG h hf s n [])
theorem Gd.post (h : Like r e1 e2) {f : List Tz → Pr (List Tw)} (hf : Gd r e1 e2 f) : ∀ (n : Nat) (t : List Tw), Gd r e1 e2 (postP f n t)
  | 0, t => Gd.out
  | n + 1, t => by
    have ih := fun t => Gd.post h hf n t
    have e : postP f (n + 1) t = fun l => if Ytbcadlocldplfaa.isT [91] l then (f l.tail).bind fun u l1 => (ofP (tw 42) [t, u] l1).bind fun t2 l2 => (mustP [93] l2).bind fun _ l3 => postP f n t2 l3 else .ok t l false := by funext l; rw [postP]
    rw [e]
    exact ((hf.tail h).bind fun u => (Gd.of _ _).bind fun t2 => (Gd.must h _).bind fun _ => ih _).isT h (Gd.ok _ _)
theorem Gd.stmts (h : Like r e1 e2) {f : List Tz → Pr (List Tw)} (hf : Gd r e1 e2 f) : ∀ (n : Nat) (acc : List (List Tw)), Gd r e1 e2 (stmtsP f n acc)
  | 0, acc => Gd.out
  | n + 1, acc => by
    have ih := fun acc => Gd.stmts h hf n acc
    have e : stmtsP f (n + 1) acc = fun l => if Ytbcadlocldplfaa.isT [125] l then .ok acc l.tail false else (f l).bind fun t l1 => stmtsP f n (acc ++ [t]) l1 := by funext l; rw [stmtsP]
    rw [e]
    exact (Gd.okt h _ _).isT h (hf.bind fun t => ih _)
theorem Gd.one (h : Like r e1 e2) {f : List Tz → Pr (List Tw)} (hf : Gd r e1 e2 f) (op : Nat) : Gd r e1 e2 (oneP f op) :=
  (Gd.must h _).bind fun _ => hf.bind fun _ => (Gd.must h _).bind fun _ => Gd.of _ _
theorem Gd.ask (h : Like r e1 e2) {f : List Tz → Pr (List Tw)} (hf : Gd r e1 e2 f) (n op : Nat) : Gd r e1 e2 (askP f n op) :=
  (Gd.own h).bind fun _ => (Gd.must h _).bind fun _ => (Gd.lis h hf _ _).bind fun _ => Gd.of _ _
theorem Gd.word (h : Like r e1 e2) {f g : List Tz → Pr (List Tw)} (hf : Gd r e1 e2 f) (hg : Gd r e1 e2 g) (n : Nat) : Gd r e1 e2 (wordP f g n) := by
  unfold wordP
  have o : ∀ op, Gd r e1 e2 (fun l => oneP f op l.tail) := fun op => (Gd.one h hf op).tail h
  have a : ∀ op, Gd r e1 e2 (fun l => askP f n op l.tail) := fun op => (Gd.ask h hf n op).tail h
  refine (Gd.okt h _ _).isT h ((Gd.okt h _ _).isT h ((Gd.okt h _ _).isT h ((Gd.okt h _ _).isT h (Gd.isT h ?_ (Gd.isT h ?_ ((o _).isT h ((o _).isT h ((o _).isT h ((o _).isT h ((o _).isT h (Gd.isT h ?_ (Gd.isT h ?_ (Gd.isT h ?_ ((a _).isT h ((a _).isT h Gd.bad)))))))))))))))
  · exact ((Gd.lis h hf _ _).tail h).bind fun _ => Gd.of _ _
  · exact (hf.tail h).bind fun _ => (Gd.must h _).bind fun _ => Gd.ok _ _
  · exact ((Gd.must h _).tail h).bind fun _ => hf.bind fun _ => (Gd.must h _).bind fun _ => hf.bind fun _ => (Gd.must h _).bind fun _ => Gd.of _ _
  · exact (hg.tail h).bind fun _ => Gd.of _ _
  · exact ((Gd.own h).tail h).bind fun _ => Gd.ok _ _
theorem Gd.prim (h : Like r e1 e2) {f g : List Tz → Pr (List Tw)} (hf : Gd r e1 e2 f) (hg : Gd r e1 e2 g) (n : Nat) : Gd r e1 e2 (primP f g n) := by
  have hw := Gd.word h hf hg n
  have un : ∀ (e : List Tz → Prop) (l : List Tz), e l → e l.tail → Esc e (wordP f g n l) → Esc e (primP f g n l) := fun e l h1 h2 h3 => by
    cases l with
    | nil => exact h1
    | cons x t =>
      unfold primP
      dsimp only
      split
      · exact h2
      · split
        · exact h2
        · split
          · exact h2
          · exact h3
  refine ⟨fun l hl => un e1 l hl (h.t1 hl) (hw.u1 l hl), fun l hl => un e2 l hl (h.t2 hl) (hw.u2 l hl), fun l l2 hr => ?_⟩
  have hl := h.look hr
  have hm := h.mineT hr
  have hww := hw.b l l2 hr
  have htl := h.tail hr
  cases l with
  | nil => cases l2 with
    | nil => exact .inr (.inl ⟨_, _, rfl, rfl, hr⟩)
    | cons y t => cases hl
  | cons x t => cases l2 with
    | nil => cases hl
    | cons y t2 =>
      simp only [List.head?_cons, Option.map_some, Option.some.injEq, zkey, Prod.mk.injEq] at hl
      have ok : ∀ tr : List Tw, Res r e1 e2 (.ok tr t false) (.ok tr t2 false) := fun tr => by
        rcases htl with h1 | ⟨h1, h2⟩
        · exact .inl ⟨_, _, _, _, rfl, rfl, h1⟩
        · exact .inr (.inr ⟨h1, h2⟩)
      unfold primP
      dsimp only
      rw [hl.1, hl.2.1, hl.2.2, hm]
      split
      · exact ok _
      · split
        · exact ok _
        · split
          · exact ok _
          · exact hww
theorem Gd.stmt (h : Like r e1 e2) {f g : List Tz → Pr (List Tw)} (hf : Gd r e1 e2 f) (hg : Gd r e1 e2 g) : Gd r e1 e2 (stmtP f g) := by
  unfold stmtP
  have un : ∀ op, Gd r e1 e2 (fun l => (f l.tail).bind fun t l1 => ofP (tw op) [t] l1) := fun op => (hf.tail h).bind fun _ => Gd.of _ _
  refine Gd.mineT h ?_ (Gd.isT h ?_ (Gd.isT h ?_ (Gd.isT h ?_ ((un _).isT h ((un _).isT h ((un _).isT h ((un _).isT h Gd.bad)))))))
  · exact (Gd.own h).bind fun _ => (Gd.must h _).bind fun _ => hf.bind fun _ => Gd.of _ _
  · exact ((Gd.own h).tail h).bind fun _ => (Gd.must h _).bind fun _ => hf.bind fun _ => Gd.of _ _
  · exact (hf.tail h).bind fun _ => hg.bind fun _ => Gd.isT h ((hg.tail h).bind fun _ => Gd.of _ _) (Gd.of _ _)
  · exact (hf.tail h).bind fun _ => hg.bind fun _ => Gd.of _ _
theorem Gd.pre (h : Like r e1 e2) {p q f : List Tz → Pr (List Tw)} (hp : Gd r e1 e2 p) (hq : Gd r e1 e2 q) (hf : Gd r e1 e2 f) (n : Nat) : Gd r e1 e2 (preP p q f n) := by
  unfold preP
  have un : ∀ op, Gd r e1 e2 (fun l => (p l.tail).bind fun t l1 => ofP (tw op) [t] l1) := fun op => (hp.tail h).bind fun _ => Gd.of _ _
  exact (un _).isT h ((un _).isT h ((un _).isT h (hq.bind fun _ => Gd.post h hf n _)))
theorem Gd.all (h : Like r e1 e2) : ∀ (n : Nat) (nt : Nt), Gd r e1 e2 (P n nt)
  | 0, nt => Gd.out
  | n + 1, nt => by
    have ih := Gd.all h n
    have lv : ∀ (nt2 : Nt) (v : List (List UInt8 × Nat)) (once : Bool), Gd r e1 e2 (fun l => (P n nt2 l).bind (leftP (P n nt2) v once n)) := fun nt2 v once => (ih nt2).bind fun t => Gd.left h (ih nt2) v once n t
    cases nt with
    | expr => exact lv .and_ sOr false
    | and_ => exact lv .not_ sAnd false
    | not_ => exact Gd.isT h (((ih .not_).tail h).bind fun _ => Gd.of _ _) (lv .sum sCmp true)
    | sum => exact lv .term sSum false
    | term => exact lv .pre sTerm false
    | pre => exact Gd.pre h (ih .pre) (ih .prim) (ih .expr) n
    | prim => exact Gd.prim h (ih .expr) (ih .block) n
    | block => exact (Gd.must h _).bind fun _ => (Gd.stmts h (ih .stmt) n []).bind fun _ => Gd.of _ _
    | stmt => exact Gd.stmt h (ih .expr) (ih .block)
theorem Gd.param (h : Like r e1 e2) : Gd r e1 e2 paramP := (Gd.own h).bind fun _ => Gd.ok _ _
theorem Gd.flow (h : Like r e1 e2) (n : Nat) : Gd r e1 e2 (flowP n) :=
  (Gd.must h _).bind fun _ => (Gd.own h).bind fun _ => (Gd.must h _).bind fun _ => (Gd.lis h (Gd.param h) _ _).bind fun _ => (Gd.all h n .block).bind fun _ => Gd.of _ _
end
/-- The same tokens at other places. -/
def SameZ (l l2 : List Tz) : Prop := l.map zkey = l2.map zkey
theorem SameZ.like : Like SameZ (fun _ => False) (fun _ => False) where
  look {l l2} h := by
    unfold SameZ at h
    rw [← List.head?_map, ← List.head?_map, h]
  tail {l l2} h := .inl (by
    unfold SameZ at *
    rw [List.map_tail, List.map_tail, h])
  t1 h := h
  t2 h := h
/-- The beginning is the same, as far as it goes: what follows is b here, c there. -/
def Begins (b c l l2 : List Tz) : Prop := ∃ a, a ≠ [] ∧ l = a ++ b ∧ l2 = a ++ c
theorem Begins.like (b c : List Tz) : Like (Begins b c) (fun l => l.length ≤ b.length) (fun l => l.length ≤ c.length) where
  look {l l2} h := by
    obtain ⟨a, ha, rfl, rfl⟩ := h
    cases a with
    | nil => exact absurd rfl ha
    | cons x t => rfl
  tail {l l2} h := by
    obtain ⟨a, ha, rfl, rfl⟩ := h
    cases a with
    | nil => exact absurd rfl ha
    | cons x t =>
      cases t with
      | nil => exact .inr ⟨by simp, by simp⟩
      | cons y t => exact .inl ⟨y :: t, by simp, rfl, rfl⟩
  t1 h := by rw [List.length_tail]; omega
  t2 h := by rw [List.length_tail]; omega
end Go.Proofs.Ytbcadlocldplfaa
namespace Go.Proofs.Ytbcadlocldplfaa

theorem readF_gd {r : List Tz → List Tz → Prop} {e1 e2 : List Tz → Prop} (h : Like r e1 e2) (n : Nat) (fl : Bool) : Gd r e1 e2 (readF n fl) := by
  cases fl with
  | true => exact Gd.flow h n
  | false => exact Gd.all h n .expr
/-- Where a fault lies. -/
theorem srcT_pos (n : Nat) (fl : Bool) (s : List UInt8) : (srcT n fl s).2.1 ≤ s.length ∧ ((srcT n fl s).2.2 = 4 → (srcT n fl s).2.1 = s.length) := by
  have hp := src_pos s
  unfold srcT
  split
  · have hlike : Like (fun _ _ => False) (fun l : List Tz => ∀ x ∈ l, x.at_ < s.length) (fun l : List Tz => ∀ x ∈ l, x.at_ < s.length) :=
      ⟨fun h => h.elim, fun h => h.elim, fun h x hx => h x (List.mem_of_mem_tail hx), fun h x hx => h x (List.mem_of_mem_tail hx)⟩
    have he := (readF_gd hlike n fl).u1 ((srcL s).1.map zOf) (fun x hx => by
      obtain ⟨t, ht, rfl⟩ := List.mem_map.1 hx
      exact hp.1 t ht)
    have fa : ∀ l : List Tz, (∀ x ∈ l, x.at_ < s.length) → (faultAt s.length l).1 ≤ s.length ∧ ((((faultAt s.length l).2 : Nat) : Int) = 4 → (faultAt s.length l).1 = s.length) := fun l hl => by
      cases l with
      | nil => exact ⟨Nat.le_refl _, fun _ => rfl⟩
      | cons x r => exact ⟨Nat.le_of_lt (hl x (by simp)), fun h => by have h9 : ((9 : Nat) : Int) = 4 := h; omega⟩
    cases hr : readF n fl ((srcL s).1.map zOf) with
    | out => exact ⟨Nat.zero_le _, fun h => by have h9 : (0 : Int) = 4 := h; omega⟩
    | bad l =>
      rw [hr] at he
      exact fa l he
    | ok t l m =>
      rw [hr] at he
      unfold endT
      cases l with
      | nil =>
        simp only [List.isEmpty_nil, if_true]
        split
        · exact ⟨Nat.zero_le _, fun h => by have h9 : (2 : Int) = 4 := h; omega⟩
        · exact ⟨Nat.zero_le _, fun h => by have h9 : (0 : Int) = 4 := h; omega⟩
      | cons x r => exact fa (x :: r) he
  · exact ⟨hp.2.1, fun h => hp.2.2 (by have h9 : (((srcL s).2.2 : Nat) : Int) = 4 := h; omega)⟩
/-- A fault of the text lies at a token. -/
theorem endT_nine {size : Nat} {r : Pr (List Tw)} (h : (endT size r).2.2 = 9) : ∃ x rr, (r = .bad (x :: rr) ∨ ∃ t m, r = .ok t (x :: rr) m) ∧ (endT size r).2.1 = x.at_ := by
  cases r with
  | out => have h9 : (0 : Int) = 9 := h; omega
  | bad l =>
    cases l with
    | nil => have h9 : ((4 : Nat) : Int) = 9 := h; omega
    | cons x rr => exact ⟨x, rr, .inl rfl, rfl⟩
  | ok t l m =>
    cases l with
    | nil =>
      exfalso
      unfold endT at h
      simp only [List.isEmpty_nil, if_true] at h
      split at h
      · have h9 : (2 : Int) = 9 := h; omega
      · have h9 : (0 : Int) = 9 := h; omega
    | cons x rr => exact ⟨x, rr, .inr ⟨t, m, rfl⟩, rfl⟩
/-- The beginning is the same, all of it ahead of a place. -/
def Ahead (cut : Nat) (b c l l2 : List Tz) : Prop := ∃ a, a ≠ [] ∧ (∀ x ∈ a, x.at_ < cut) ∧ l = a ++ b ∧ l2 = a ++ c
theorem Ahead.like {cut : Nat} {b c : List Tz} (hc : ∀ x ∈ c, cut ≤ x.at_ + 24) : Like (Ahead cut b c) (fun _ => True) (fun l => ∀ x ∈ l, cut ≤ x.at_ + 24) where
  look {l l2} h := by
    obtain ⟨a, ha, _, rfl, rfl⟩ := h
    cases a with
    | nil => exact absurd rfl ha
    | cons x t => rfl
  tail {l l2} h := by
    obtain ⟨a, ha, hx, rfl, rfl⟩ := h
    cases a with
    | nil => exact absurd rfl ha
    | cons x t =>
      cases t with
      | nil => exact .inr ⟨trivial, hc⟩
      | cons y t => exact .inl ⟨y :: t, by simp, fun z hz => hx z (List.mem_cons_of_mem _ hz), rfl, rfl⟩
  t1 h := trivial
  t2 h := fun x hx => h x (List.mem_of_mem_tail hx)
theorem cut_late {n : Nat} {fl : Bool} {s : List UInt8} {cut : Nat} (hc : cut ≤ s.length) (hg : (srcL s).2.2 = 0) (h9 : (srcT n fl s).2.2 = 9) (hat : cut ≤ (srcT n fl s).2.1) (hf : (srcT n fl (s.take cut)).2.2 = 9) : cut ≤ (srcT n fl (s.take cut)).2.1 + 24 := by
  obtain ⟨lf, q, er, hsrc⟩ : ∃ a b c, srcL s = (a, b, c) := ⟨_, _, _, rfl⟩
  rw [hsrc] at hg
  have her : er = 0 := hg
  subst her
  have hq : q = 0 := by
    unfold srcL at hsrc
    split at hsrc
    · injection hsrc with _ h; injection h with _ h; omega
    · exact all_ok hsrc rfl
  subst hq
  have hT : srcT n fl s = endT s.length (readF n fl (lf.map zOf)) := by unfold srcT; rw [hsrc]; rfl
  rw [hT] at h9 hat
  obtain ⟨x, rr, hx, hxa⟩ := endT_nine h9
  rw [hxa] at hat
  rcases src_take hc hsrc with h4 | ⟨a, b, c, rfl, h4, h5, h6, _⟩
  · have : srcT n fl (s.take cut) = ([], cut, ((4 : Nat) : Int)) := by unfold srcT; rw [h4]; rfl
    rw [this] at hf
    have h8 : ((4 : Nat) : Int) = 9 := hf
    omega
  · have hT2 : srcT n fl (s.take cut) = endT (s.take cut).length (readF n fl ((a ++ c).map zOf)) := by unfold srcT; rw [h4]; rfl
    rw [hT2] at hf ⊢
    obtain ⟨y, ss, hy, hya⟩ := endT_nine hf
    rw [hya]
    have hcz : ∀ z ∈ c.map zOf, cut ≤ z.at_ + 24 := fun z hz => by
      obtain ⟨t, ht, rfl⟩ := List.mem_map.1 hz
      exact (h6 t ht).2
    have G := readF_gd (Ahead.like (b := b.map zOf) hcz) n fl
    rw [List.map_append] at hx hy
    by_cases ha : a = []
    · subst ha
      have := G.u2 _ (show ∀ z ∈ [].map zOf ++ c.map zOf, cut ≤ z.at_ + 24 from by simpa using hcz)
      rcases hy with hy | ⟨t, m, hy⟩
      · rw [hy] at this; exact this y (by simp)
      · rw [hy] at this; exact this y (by simp)
    · have hr : Ahead cut (b.map zOf) (c.map zOf) (a.map zOf ++ b.map zOf) (a.map zOf ++ c.map zOf) := ⟨a.map zOf, by simpa using ha, fun z hz => by
        obtain ⟨t, ht, rfl⟩ := List.mem_map.1 hz
        exact h5 t ht, rfl, rfl⟩
      have early : ∀ l2, ¬ Ahead cut (b.map zOf) (c.map zOf) (x :: rr) l2 := fun l2 h => by
        obtain ⟨a', h1, h2, h3, _⟩ := h
        cases a' with
        | nil => exact h1 rfl
        | cons z t =>
          rw [List.cons_append] at h3
          injection h3 with h3 _
          have := h2 z (by simp)
          rw [← h3] at this
          omega
      rcases G.b _ _ hr with ⟨t, l, l2, m, e1, e2, e3⟩ | ⟨l, l2, e1, e2, e3⟩ | ⟨_, e2⟩
      · rcases hx with hx | ⟨t', m', hx⟩
        · rw [hx] at e1; cases e1
        · rw [hx] at e1
          injection e1 with _ e1 _
          rw [← e1] at e3
          exact absurd e3 (early l2)
      · rcases hx with hx | ⟨t', m', hx⟩
        · rw [hx] at e1
          injection e1 with e1
          rw [← e1] at e3
          exact absurd e3 (early l2)
        · rw [hx] at e1; cases e1
      · rcases hy with hy | ⟨t, m, hy⟩
        · rw [hy] at e2; exact e2 y (by simp)
        · rw [hy] at e2; exact e2 y (by simp)
end Go.Proofs.Ytbcadlocldplfaa
namespace Go.Proofs.Ytbcadlocldplfaa
open Go.RowKit

set_option maxRecDepth 100000 in
set_option maxHeartbeats 8000000 in
theorem parseGoesOn_walk (st : ByteArray) (w0 : st.size ≤ maxLen) (cut : Int) (w : World) :
    Calls Try.prog 4 #[.string st, .int .i64 cut] w fun e w' => e = .returned (.bool true) ∧ Below w.heap.size w w' := by
  obtain ⟨s, hs⟩ : ∃ s : List UInt8, st = ⟨s.toArray⟩ := ⟨st.data.toList, by cases st; rfl⟩
  obtain ⟨n, hn⟩ : ∃ n, n = st.size := ⟨_, rfl⟩
  have hsz : st.size = n := hn.symm
  have hsn : s.length = n := by rw [hn, hs]; rfl
  have hn9 : n ≤ 9223372036854775807 := by unfold maxLen at w0; omega
  by_cases hlong : 20000 < n
  · obtain ⟨s1, hs1e⟩ : ∃ z, z = s.take 20000 := ⟨_, rfl⟩
    have hs1 : s1.length ≤ 100000 := by rw [hs1e, List.length_take]; omega
    have hex : st.extract 0 20000 = ⟨s1.toArray⟩ := by rw [hs, hs1e]; exact take_ext s 20000
    have hd : decide ((20000 : Int) < (n : Int)) = true := decide_eq_true (by omega)
    have hd2 : (20000 : Nat) ≤ n := by omega
    have hd3 : ((20000 : Nat) : Int) ≤ (n : Int) := by omega
    clear hs1e hs hn w0 hsn
    have HF := Lib.hid (fun W => flow9_any N0 s1 hs1 (readF_ne true hs1) W)
    have HPO := Lib.hid (srcT_pos N0 true s1)
    have HTA := Lib.hid (fun W => all_any s1 hs1 W)
    have HPL : Hid (∀ cut, cut ≤ s1.length → (srcL s1).2.2 = 0 → (srcT N0 true s1).2.2 = 9 → cut ≤ (srcT N0 true s1).2.1 → (srcT N0 true (s1.take cut)).2.2 = 9 → cut ≤ (srcT N0 true (s1.take cut)).2.1 + 24) := Lib.hid fun cut => cut_late
    have HCU : Hid (∀ cut, cut ≤ s1.length → (srcT N0 true (s1.take cut)).2.1 ≤ cut) := Lib.hid fun cut hc => by
      have := (srcT_pos N0 true (s1.take cut)).1
      rwa [len_take hc] at this
    have HFC : Hid (∀ cut W, Calls Try.prog 9 #[.string ⟨(s1.take cut).toArray⟩] W (TrePost W (srcT N0 true (s1.take cut)))) := Lib.hid fun cut W => flow9_any N0 (s1.take cut) (by rw [List.length_take]; omega) (readF_ne true (by rw [List.length_take]; omega)) W
    obtain ⟨R, hR⟩ : ∃ R, R = srcT N0 true s1 := ⟨_, rfl⟩
    rw [← hR] at HF HPO HPL
    obtain ⟨t, at_, er⟩ := R
    obtain ⟨st1, hst1⟩ : ∃ z : ByteArray, z = ⟨s1.toArray⟩ := ⟨_, rfl⟩
    have HEX : Hid (∀ k, st1.extract 0 k = ⟨(s1.take k).toArray⟩) := Lib.hid (fun k => by rw [hst1]; exact take_ext s1 k)
    have hz1 : st1.size = s1.length := by rw [hst1]; rfl
    obtain ⟨m, hm⟩ : ∃ z, z = s1.length := ⟨_, rfl⟩
    rw [← hm] at hz1 HPO HPL HCU hs1
    rw [← hst1] at HF hex HTA
    have HW := Lib.hid (fun W => wakes8_any W)
    try dsimp only at HPO HPL
    obtain ⟨q, hq⟩ : ∃ z, z = (srcL s1).2.1 := ⟨_, rfl⟩
    obtain ⟨g, hg⟩ : ∃ z, z = (srcL s1).2.2 := ⟨_, rfl⟩
    obtain ⟨tk, htk⟩ : ∃ z, z = (srcL s1).1 := ⟨_, rfl⟩
    unfold AllPost at HTA
    rw [← hq, ← hg, ← htk] at HTA
    rw [← hg] at HPL
    obtain ⟨p1, p2⟩ := HPO.out
    have dlt : decide ((at_ : Int) < 0) = false := decide_eq_false (by omega)
    have dgt : decide ((at_ : Int) > (m : Int)) = false := decide_eq_false (by omega)
    have ngt : ¬ m < at_ := by omega
    clear hR hst1 hq hg htk hm HPO
    go_enter Try.func4, Try.ntmps4
    go_wp2_with fail
    clear hex hd hd2 hd3 hlong
    refine (HF.out w).mono ?_
    rintro e w1 ⟨A, n1, c1, rfl, ho1, hl1, hb1⟩
    have HB1 := Lib.hid hb1
    clear ho1 hl1 hb1
    have h44 : (er = 4 ∧ (at_ : Int) = (m : Int)) ∨ er ≠ 4 := by
      by_cases h4 : er = 4
      · exact .inl ⟨h4, by have := p2 h4; omega⟩
      · exact .inr h4
    have hx4 : ∃ u1 u2 : Bool, (er == 4) = u1 ∧ ((at_ : Int) != (m : Int)) = u2 ∧ (u1 && u2) = false := by
      refine ⟨_, _, rfl, rfl, ?_⟩
      rcases h44 with ⟨_, h⟩ | h
      · simp [h]
      · simp [h]
    clear h44 p2
    obtain ⟨u1, u2, hu1, hu2, hu3⟩ := hx4
    have hcutc : cut < 0 ∨ (m : Int) ≤ cut ∨ ∃ ct : Nat, cut = (ct : Nat) ∧ ct < m := by
      rcases (by omega : cut < 0 ∨ (m : Int) ≤ cut ∨ (0 ≤ cut ∧ cut < (m : Int))) with h | h | ⟨h, h2⟩
      · exact .inl h
      · exact .inr (.inl h)
      · exact .inr (.inr ⟨cut.toNat, by omega, by omega⟩)
    have h5 : (u1 = true ∧ u2 = false) ∨ u1 = false := by cases u1 <;> cases u2 <;> simp at hu3 <;> simp
    clear hu3
    rcases h5 with ⟨rfl, rfl⟩ | rfl
    all_goals
      rcases hcutc with hneg | hbig | ⟨ct, rfl, hct⟩
      · have dn : decide (cut < 0) = true := decide_eq_true hneg
        clear hneg
        go_wp2_with fail
        refine (HW.out _).mono ?_
        rintro e w9 ⟨rfl, hb9⟩
        have HB9 := Lib.hid (HB1.out.trans (hb9.mono HB1.out.size))
        clear hb9
        go_wp2_with fail
        go_ret
        exact ⟨rfl, HB9.out⟩
      · have dn : decide (cut < 0) = false := decide_eq_false (by omega)
        have db : decide (cut ≥ (m : Int)) = true := decide_eq_true hbig
        have db2 : decide ((m : Int) ≤ cut) = true := decide_eq_true hbig
        go_wp2_with fail
        refine (HW.out _).mono ?_
        rintro e w9 ⟨rfl, hb9⟩
        have HB9 := Lib.hid (HB1.out.trans (hb9.mono HB1.out.size))
        clear hb9
        go_wp2_with fail
        go_ret
        exact ⟨rfl, HB9.out⟩
      · have dn : decide ((ct : Int) < 0) = false := decide_eq_false (by omega)
        have db : decide ((ct : Int) ≥ (m : Int)) = false := decide_eq_false (by omega)
        have db3 : ¬ m ≤ ct := by omega
        have hle1 : ct ≤ m := by omega
        have hle2 : (ct : Int) ≤ (m : Int) := by omega
        have hex2 := HEX.out ct
        have HF2 := Lib.hid (HFC.out ct)
        have hk := HCU.out ct hle1
        have HLT := Lib.hid (HPL.out ct hle1)
        obtain ⟨R2, hR2⟩ : ∃ R, R = srcT N0 true (s1.take ct) := ⟨_, rfl⟩
        rw [← hR2] at HF2 HLT hk
        obtain ⟨t2, k, f⟩ := R2
        try dsimp only at HLT hk
        clear hR2 HFC HCU HPL
        go_wp2_with fail
        refine (HF2.out w1).mono ?_
        rintro e w2 ⟨A2, n2, c2, rfl, ho2, hl2, hb2⟩
        have HB2 := Lib.hid (HB1.out.trans (hb2.mono HB1.out.size))
        clear ho2 hl2 hb2
        go_wp2_with fail
        refine (HTA.out w2).mono ?_
        rintro e w3 ⟨A3, c3, rfl, ho3, hb3⟩
        have HB3 := Lib.hid (HB2.out.trans (hb3.mono HB2.out.size))
        clear ho3 hb3
        have dk0 : decide ((k : Int) ≥ 0) = true := decide_eq_true (by omega)
        have dk1 : decide ((k : Int) ≤ (ct : Int)) = true := decide_eq_true (by omega)
        have dk2 : k ≤ ct := hk
        have hall : (g = 0 ∧ er = 9 ∧ ct ≤ at_ ∧ f = 9) ∨ ¬ (g = 0 ∧ er = 9 ∧ ct ≤ at_ ∧ f = 9) := Classical.em _
        rcases hall with ⟨h1, h2, h3, h4⟩ | hno
        · have hl := HLT.out h1 h2 h3 h4
          have e1 : ((g : Int) == 0) = true := by simp [h1]
          have e2 : (er == 9) = true := by simp [h2]
          have e3 : decide ((ct : Int) ≤ (at_ : Int)) = true := decide_eq_true (by omega)
          have e3' : ct ≤ at_ := h3
          have e4 : (f == 9) = true := by simp [h4]
          have e5 : decide ((k : Int) ≥ (ct : Int) - 24) = true := decide_eq_true (by omega)
          have e5' : decide ((ct : Int) - 24 ≤ (k : Int)) = true := decide_eq_true (by omega)
          clear h1 h2 h4 hl hct h3
          go_wp2_with fail
          refine (HW.out _).mono ?_
          rintro e w9 ⟨rfl, hb9⟩
          have HB9 := Lib.hid (HB3.out.trans (hb9.mono HB3.out.size))
          clear hb9
          go_wp2_with fail
          go_ret
          exact ⟨rfl, HB9.out⟩
        · clear HLT
          by_cases a1 : g = 0
          · have e1 : ((g : Int) == 0) = true := by simp [a1]
            by_cases a2 : er = 9
            · have e2 : (er == 9) = true := by simp [a2]
              by_cases a3 : ct ≤ at_
              · have e3 : decide ((ct : Int) ≤ (at_ : Int)) = true := decide_eq_true (by omega)
                have e4 : (f == 9) = false := by simpa using fun h => hno ⟨a1, a2, a3, h⟩
                clear a1 a2 hno hct
                go_wp2_with fail
                refine (HW.out _).mono ?_
                rintro e w9 ⟨rfl, hb9⟩
                have HB9 := Lib.hid (HB3.out.trans (hb9.mono HB3.out.size))
                clear hb9
                go_wp2_with fail
                go_ret
                exact ⟨rfl, HB9.out⟩
              · have e3 : decide ((ct : Int) ≤ (at_ : Int)) = false := decide_eq_false (by omega)
                clear a1 a2 hno hct
                go_wp2_with fail
                refine (HW.out _).mono ?_
                rintro e w9 ⟨rfl, hb9⟩
                have HB9 := Lib.hid (HB3.out.trans (hb9.mono HB3.out.size))
                clear hb9
                go_wp2_with fail
                go_ret
                exact ⟨rfl, HB9.out⟩
            · have e2 : (er == 9) = false := by simpa using a2
              clear a1 a2 hno hct
              go_wp2_with fail
              refine (HW.out _).mono ?_
              rintro e w9 ⟨rfl, hb9⟩
              have HB9 := Lib.hid (HB3.out.trans (hb9.mono HB3.out.size))
              clear hb9
              go_wp2_with fail
              go_ret
              exact ⟨rfl, HB9.out⟩
          · have e1 : ((g : Int) == 0) = false := by
              have : (g : Int) ≠ 0 := by omega
              simpa using this
            clear a1 hno hct
            go_wp2_with fail
            refine (HW.out _).mono ?_
            rintro e w9 ⟨rfl, hb9⟩
            have HB9 := Lib.hid (HB3.out.trans (hb9.mono HB3.out.size))
            clear hb9
            go_wp2_with fail
            go_ret
            exact ⟨rfl, HB9.out⟩
  · have hs1 : s.length ≤ 100000 := by omega
    have hd : decide ((20000 : Int) < (n : Int)) = false := decide_eq_false (by omega)
    obtain ⟨s1, hs1e⟩ : ∃ z, z = s := ⟨_, rfl⟩
    rw [← hs1e] at hs1
    have hex : st = ⟨s1.toArray⟩ := by rw [hs, hs1e]
    clear hs1e hs hn w0 hsn
    have HF := Lib.hid (fun W => flow9_any N0 s1 hs1 (readF_ne true hs1) W)
    have HPO := Lib.hid (srcT_pos N0 true s1)
    have HTA := Lib.hid (fun W => all_any s1 hs1 W)
    have HPL : Hid (∀ cut, cut ≤ s1.length → (srcL s1).2.2 = 0 → (srcT N0 true s1).2.2 = 9 → cut ≤ (srcT N0 true s1).2.1 → (srcT N0 true (s1.take cut)).2.2 = 9 → cut ≤ (srcT N0 true (s1.take cut)).2.1 + 24) := Lib.hid fun cut => cut_late
    have HCU : Hid (∀ cut, cut ≤ s1.length → (srcT N0 true (s1.take cut)).2.1 ≤ cut) := Lib.hid fun cut hc => by
      have := (srcT_pos N0 true (s1.take cut)).1
      rwa [len_take hc] at this
    have HFC : Hid (∀ cut W, Calls Try.prog 9 #[.string ⟨(s1.take cut).toArray⟩] W (TrePost W (srcT N0 true (s1.take cut)))) := Lib.hid fun cut W => flow9_any N0 (s1.take cut) (by rw [List.length_take]; omega) (readF_ne true (by rw [List.length_take]; omega)) W
    obtain ⟨R, hR⟩ : ∃ R, R = srcT N0 true s1 := ⟨_, rfl⟩
    rw [← hR] at HF HPO HPL
    obtain ⟨t, at_, er⟩ := R
    obtain ⟨st1, hst1⟩ : ∃ z : ByteArray, z = ⟨s1.toArray⟩ := ⟨_, rfl⟩
    have HEX : Hid (∀ k, st1.extract 0 k = ⟨(s1.take k).toArray⟩) := Lib.hid (fun k => by rw [hst1]; exact take_ext s1 k)
    have hz1 : st1.size = s1.length := by rw [hst1]; rfl
    obtain ⟨m, hm⟩ : ∃ z, z = s1.length := ⟨_, rfl⟩
    rw [← hm] at hz1 HPO HPL HCU hs1
    rw [← hst1] at HF hex HTA
    subst hex
    obtain rfl : m = n := hz1.symm.trans hsz
    have HW := Lib.hid (fun W => wakes8_any W)
    try dsimp only at HPO HPL
    obtain ⟨q, hq⟩ : ∃ z, z = (srcL s1).2.1 := ⟨_, rfl⟩
    obtain ⟨g, hg⟩ : ∃ z, z = (srcL s1).2.2 := ⟨_, rfl⟩
    obtain ⟨tk, htk⟩ : ∃ z, z = (srcL s1).1 := ⟨_, rfl⟩
    unfold AllPost at HTA
    rw [← hq, ← hg, ← htk] at HTA
    rw [← hg] at HPL
    obtain ⟨p1, p2⟩ := HPO.out
    have dlt : decide ((at_ : Int) < 0) = false := decide_eq_false (by omega)
    have dgt : decide ((at_ : Int) > (m : Int)) = false := decide_eq_false (by omega)
    have ngt : ¬ m < at_ := by omega
    clear hR hst1 hq hg htk hm HPO
    go_enter Try.func4, Try.ntmps4
    go_wp2_with fail
    clear hd hlong
    refine (HF.out w).mono ?_
    rintro e w1 ⟨A, n1, c1, rfl, ho1, hl1, hb1⟩
    have HB1 := Lib.hid hb1
    clear ho1 hl1 hb1
    have h44 : (er = 4 ∧ (at_ : Int) = (m : Int)) ∨ er ≠ 4 := by
      by_cases h4 : er = 4
      · exact .inl ⟨h4, by have := p2 h4; omega⟩
      · exact .inr h4
    have hx4 : ∃ u1 u2 : Bool, (er == 4) = u1 ∧ ((at_ : Int) != (m : Int)) = u2 ∧ (u1 && u2) = false := by
      refine ⟨_, _, rfl, rfl, ?_⟩
      rcases h44 with ⟨_, h⟩ | h
      · simp [h]
      · simp [h]
    clear h44 p2
    obtain ⟨u1, u2, hu1, hu2, hu3⟩ := hx4
    have hcutc : cut < 0 ∨ (m : Int) ≤ cut ∨ ∃ ct : Nat, cut = (ct : Nat) ∧ ct < m := by
      rcases (by omega : cut < 0 ∨ (m : Int) ≤ cut ∨ (0 ≤ cut ∧ cut < (m : Int))) with h | h | ⟨h, h2⟩
      · exact .inl h
      · exact .inr (.inl h)
      · exact .inr (.inr ⟨cut.toNat, by omega, by omega⟩)
    have h5 : (u1 = true ∧ u2 = false) ∨ u1 = false := by cases u1 <;> cases u2 <;> simp at hu3 <;> simp
    clear hu3
    rcases h5 with ⟨rfl, rfl⟩ | rfl
    all_goals
      rcases hcutc with hneg | hbig | ⟨ct, rfl, hct⟩
      · have dn : decide (cut < 0) = true := decide_eq_true hneg
        clear hneg
        go_wp2_with fail
        refine (HW.out _).mono ?_
        rintro e w9 ⟨rfl, hb9⟩
        have HB9 := Lib.hid (HB1.out.trans (hb9.mono HB1.out.size))
        clear hb9
        go_wp2_with fail
        go_ret
        exact ⟨rfl, HB9.out⟩
      · have dn : decide (cut < 0) = false := decide_eq_false (by omega)
        have db : decide (cut ≥ (m : Int)) = true := decide_eq_true hbig
        have db2 : decide ((m : Int) ≤ cut) = true := decide_eq_true hbig
        go_wp2_with fail
        refine (HW.out _).mono ?_
        rintro e w9 ⟨rfl, hb9⟩
        have HB9 := Lib.hid (HB1.out.trans (hb9.mono HB1.out.size))
        clear hb9
        go_wp2_with fail
        go_ret
        exact ⟨rfl, HB9.out⟩
      · have dn : decide ((ct : Int) < 0) = false := decide_eq_false (by omega)
        have db : decide ((ct : Int) ≥ (m : Int)) = false := decide_eq_false (by omega)
        have db3 : ¬ m ≤ ct := by omega
        have hle1 : ct ≤ m := by omega
        have hle2 : (ct : Int) ≤ (m : Int) := by omega
        have hex2 := HEX.out ct
        have HF2 := Lib.hid (HFC.out ct)
        have hk := HCU.out ct hle1
        have HLT := Lib.hid (HPL.out ct hle1)
        obtain ⟨R2, hR2⟩ : ∃ R, R = srcT N0 true (s1.take ct) := ⟨_, rfl⟩
        rw [← hR2] at HF2 HLT hk
        obtain ⟨t2, k, f⟩ := R2
        try dsimp only at HLT hk
        clear hR2 HFC HCU HPL
        go_wp2_with fail
        refine (HF2.out w1).mono ?_
        rintro e w2 ⟨A2, n2, c2, rfl, ho2, hl2, hb2⟩
        have HB2 := Lib.hid (HB1.out.trans (hb2.mono HB1.out.size))
        clear ho2 hl2 hb2
        go_wp2_with fail
        refine (HTA.out w2).mono ?_
        rintro e w3 ⟨A3, c3, rfl, ho3, hb3⟩
        have HB3 := Lib.hid (HB2.out.trans (hb3.mono HB2.out.size))
        clear ho3 hb3
        have dk0 : decide ((k : Int) ≥ 0) = true := decide_eq_true (by omega)
        have dk1 : decide ((k : Int) ≤ (ct : Int)) = true := decide_eq_true (by omega)
        have dk2 : k ≤ ct := hk
        have hall : (g = 0 ∧ er = 9 ∧ ct ≤ at_ ∧ f = 9) ∨ ¬ (g = 0 ∧ er = 9 ∧ ct ≤ at_ ∧ f = 9) := Classical.em _
        rcases hall with ⟨h1, h2, h3, h4⟩ | hno
        · have hl := HLT.out h1 h2 h3 h4
          have e1 : ((g : Int) == 0) = true := by simp [h1]
          have e2 : (er == 9) = true := by simp [h2]
          have e3 : decide ((ct : Int) ≤ (at_ : Int)) = true := decide_eq_true (by omega)
          have e3' : ct ≤ at_ := h3
          have e4 : (f == 9) = true := by simp [h4]
          have e5 : decide ((k : Int) ≥ (ct : Int) - 24) = true := decide_eq_true (by omega)
          have e5' : decide ((ct : Int) - 24 ≤ (k : Int)) = true := decide_eq_true (by omega)
          clear h1 h2 h4 hl hct h3
          go_wp2_with fail
          refine (HW.out _).mono ?_
          rintro e w9 ⟨rfl, hb9⟩
          have HB9 := Lib.hid (HB3.out.trans (hb9.mono HB3.out.size))
          clear hb9
          go_wp2_with fail
          go_ret
          exact ⟨rfl, HB9.out⟩
        · clear HLT
          by_cases a1 : g = 0
          · have e1 : ((g : Int) == 0) = true := by simp [a1]
            by_cases a2 : er = 9
            · have e2 : (er == 9) = true := by simp [a2]
              by_cases a3 : ct ≤ at_
              · have e3 : decide ((ct : Int) ≤ (at_ : Int)) = true := decide_eq_true (by omega)
                have e4 : (f == 9) = false := by simpa using fun h => hno ⟨a1, a2, a3, h⟩
                clear a1 a2 hno hct
                go_wp2_with fail
                refine (HW.out _).mono ?_
                rintro e w9 ⟨rfl, hb9⟩
                have HB9 := Lib.hid (HB3.out.trans (hb9.mono HB3.out.size))
                clear hb9
                go_wp2_with fail
                go_ret
                exact ⟨rfl, HB9.out⟩
              · have e3 : decide ((ct : Int) ≤ (at_ : Int)) = false := decide_eq_false (by omega)
                clear a1 a2 hno hct
                go_wp2_with fail
                refine (HW.out _).mono ?_
                rintro e w9 ⟨rfl, hb9⟩
                have HB9 := Lib.hid (HB3.out.trans (hb9.mono HB3.out.size))
                clear hb9
                go_wp2_with fail
                go_ret
                exact ⟨rfl, HB9.out⟩
            · have e2 : (er == 9) = false := by simpa using a2
              clear a1 a2 hno hct
              go_wp2_with fail
              refine (HW.out _).mono ?_
              rintro e w9 ⟨rfl, hb9⟩
              have HB9 := Lib.hid (HB3.out.trans (hb9.mono HB3.out.size))
              clear hb9
              go_wp2_with fail
              go_ret
              exact ⟨rfl, HB9.out⟩
          · have e1 : ((g : Int) == 0) = false := by
              have : (g : Int) ≠ 0 := by omega
              simpa using this
            clear a1 hno hct
            go_wp2_with fail
            refine (HW.out _).mono ?_
            rintro e w9 ⟨rfl, hb9⟩
            have HB9 := Lib.hid (HB3.out.trans (hb9.mono HB3.out.size))
            clear hb9
            go_wp2_with fail
            go_ret
            exact ⟨rfl, HB9.out⟩
end Go.Proofs.Ytbcadlocldplfaa
