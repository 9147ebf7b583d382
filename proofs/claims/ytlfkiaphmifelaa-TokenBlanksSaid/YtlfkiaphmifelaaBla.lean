/- Plain law: tokens of a source that stands ahead of a new line, or behind something that is skipped. No program in sight. -/
import Derived.Test.YtlfkiaphmifelaaAls
namespace Go.Proofs.Ytlfkiaphmifelaa

theorem esc_err' {s : List UInt8} {k q e : Nat} (h : escL s k = .inl (q, e)) : e ≠ 0 := by
  unfold escL at h
  split at h
  · injection h with h; injection h with _ h2; omega
  · split at h
    · cases h
    · split at h
      · cases h
      · split at h
        · unfold hex2 at h
          split at h
          · injection h with h; injection h with _ h2; omega
          · split at h
            · injection h with h; injection h with _ h2; omega
            · split at h
              · injection h with h; injection h with _ h2; omega
              · split at h
                · injection h with h; injection h with _ h2; omega
                · cases h
        · injection h with h; injection h with _ h2; omega
theorem one_err' {s : List UInt8} {i : Nat} {c : UInt8} {q er : Nat} (h : oneL s i c = .inl (q, er)) : er ≠ 0 := by
  unfold oneL at h
  split at h
  · unfold wordL at h
    split at h
    · injection h with h; injection h with _ h; omega
    · cases h
  · split at h
    · unfold numT at h
      split at h
      · cases h
      · rename_i h0; injection h with h; injection h with _ h; rw [← h]; exact h0
    · split at h
      · unfold textT at h
        split at h
        · cases h
        · rename_i h0; injection h with h; injection h with _ h; rw [← h]; exact h0
      · unfold signL at h
        split at h
        · injection h with h; injection h with _ h; omega
        · split at h
          · injection h with h; injection h with _ h; omega
          · split at h
            · split at h <;> cases h
            · injection h with h; injection h with _ h; omega

/-! ### Ahead of a new line -/
section
variable {a x : List UInt8}
theorem ext_get {k : Nat} {c : UInt8} (r : List UInt8) (h : a[k]? = some c) : (a ++ r)[k]? = some c := by
  have := (List.getElem?_eq_some_iff.1 h).1
  rw [List.getElem?_append_left this]; exact h
theorem takeWhile_all (p : UInt8 → Bool) : ∀ r : List UInt8, (∀ c ∈ r, p c = true) → r.takeWhile p = r
  | [], _ => rfl
  | c :: r, h => by rw [List.takeWhile_cons, h c (by simp), if_pos rfl, takeWhile_all p r (fun d hd => h d (by simp [hd]))]
theorem takeWhile_ext (p : UInt8 → Bool) (hp : p 10 = false) : ∀ y : List UInt8, (y ++ 10 :: x).takeWhile p = y.takeWhile p
  | [] => by simp [List.takeWhile_cons, hp]
  | c :: y => by
    rw [List.cons_append, List.takeWhile_cons, List.takeWhile_cons, takeWhile_ext p hp y]
theorem scan_ext (p : UInt8 → Bool) (hp : p 10 = false) {i : Nat} (hi : i ≤ a.length) : scan p (a ++ 10 :: x) i = scan p a i := by
  unfold scan
  rw [List.drop_append_of_le_length hi, takeWhile_ext p hp]
theorem cut_ext (r : List UInt8) {i e : Nat} (he : e ≤ a.length) : cutL (a ++ r) i e = cutL a i e := by
  unfold cutL
  rw [List.take_append_of_le_length he]
theorem num_ext {i : Nat} (hi : i < a.length) : numL (a ++ 10 :: x) i = numL a i := by
  have hs := scan_ext (x := x) digB (by decide) (Nat.le_of_lt hi)
  have hle := scan_le digB a (Nat.le_of_lt hi)
  have hg : (a ++ 10 :: x)[i]? = a[i]? := List.getElem?_append_left hi
  unfold numL
  rw [hs, hg, cut_ext _ hle]
  split
  · rfl
  · split
    · rfl
    · rcases Nat.lt_or_ge (scan digB a i) a.length with h | h
      · rw [dif_pos h, dif_pos (by rw [List.length_append]; omega)]
        rw [List.getElem_append_left h]
      · have he : scan digB a i = a.length := by omega
        rw [dif_pos (show scan digB a i < (a ++ 10 :: x).length by rw [List.length_append, List.length_cons]; omega), dif_neg (show ¬ scan digB a i < a.length by omega)]
        have hten : (a ++ 10 :: x)[scan digB a i]'(by rw [List.length_append, List.length_cons]; omega) = 10 := by
          simp [he]
        rw [hten]; rfl
theorem hex2_ext (r : List UInt8) {k : Nat} {v : Nat × Nat} (h : hex2 a k = .inr v) : hex2 (a ++ r) k = .inr v := by
  unfold hex2 at h ⊢
  split at h
  · cases h
  · rename_i c hc
    rw [ext_get r hc]
    dsimp only
    split at h
    · cases h
    · rename_i d hd
      try rw [hd]
      try dsimp only
      split at h
      · cases h
      · rename_i c2 hc2
        rw [ext_get r hc2]
        exact h
theorem esc_ext (r : List UInt8) {k : Nat} {v : Nat × Nat} (h : escL a k = .inr v) : escL (a ++ r) k = .inr v := by
  unfold escL at h ⊢
  split at h
  · cases h
  · rename_i c hc
    rw [ext_get r hc]
    dsimp only
    split at h
    · rename_i h1; rw [if_pos h1]; exact h
    · rename_i h1
      rw [if_neg h1]
      split at h
      · rename_i h2; rw [if_pos h2]; exact h
      · rename_i h2
        rw [if_neg h2]
        split at h
        · rename_i h3; rw [if_pos h3]; exact hex2_ext r h
        · cases h
theorem char_ext (r : List UInt8) {c : UInt8} {k : Nat} {v : Nat × Nat} (h : charL a c k = .inr v) : charL (a ++ r) c k = .inr v := by
  unfold charL at h ⊢
  split at h
  · rename_i h1; rw [if_pos h1]; exact esc_ext r h
  · rename_i h1; rw [if_neg h1]; exact h
theorem char_err {s : List UInt8} {c : UInt8} {k q e : Nat} (h : charL s c k = .inl (q, e)) : e ≠ 0 := by
  unfold charL at h
  split at h
  · exact esc_err' h
  · cases h
theorem textN_ext (r : List UInt8) (i : Nat) : ∀ (n k : Nat) (b : List UInt8), (textN n a i k b).2.2.2 = 0 → ∀ m, n ≤ m → textN m (a ++ r) i k b = textN n a i k b
  | 0, _, _, h, _, _ => by unfold textN at h; cases h
  | n + 1, k, b, h, 0, hm => by omega
  | n + 1, k, b, h, m + 1, hm => by
    unfold textN at h ⊢
    cases hc : a[k]? with
    | none => rw [hc] at h; cases h
    | some c =>
      rw [hc] at h
      rw [ext_get r hc]
      dsimp only at h ⊢
      split at h
      · rename_i h1; rw [if_pos h1, if_pos h1]
      · rename_i h1
        rw [if_neg h1, if_neg h1]
        split at h
        · cases h
        · rename_i h2
          rw [if_neg h2, if_neg h2]
          cases hch : charL a c k with
          | inl v => rw [hch] at h; exact absurd h (char_err hch)
          | inr v =>
            rw [hch] at h
            rw [char_ext r hch]
            dsimp only at h ⊢
            split at h
            · cases h
            · rename_i h3
              rw [if_neg h3, if_neg h3]
              exact textN_ext r i n _ _ h m (by omega)
theorem one_ext {i : Nat} {c : UInt8} (hc : a[i]? = some c) {v : Tok × Nat} (h : oneL a i c = .inr v) : oneL (a ++ 10 :: x) i c = .inr v := by
  have hi : i < a.length := (List.getElem?_eq_some_iff.1 hc).1
  unfold oneL at h ⊢
  split at h
  · rename_i h1
    rw [if_pos h1]
    unfold wordL at h ⊢
    have hs := scan_ext (a := a) (x := x) innB (by decide) (Nat.le_of_lt hi)
    have hle := scan_le innB a (Nat.le_of_lt hi)
    rw [hs, cut_ext _ hle]
    exact h
  · rename_i h1
    rw [if_neg h1]
    split at h
    · rename_i h2
      rw [if_pos h2]
      unfold numT at h ⊢
      rw [num_ext hi]; exact h
    · rename_i h2
      rw [if_neg h2]
      split at h
      · rename_i h3
        rw [if_pos h3]
        unfold textT at h ⊢
        split at h
        · rename_i h0
          have := textN_ext (10 :: x) i a.length (i + 1) [] h0 (a ++ 10 :: x).length (by rw [List.length_append]; omega)
          have e : textL (a ++ 10 :: x) i (i + 1) [] = textL a i (i + 1) [] := this
          rw [e, if_pos h0]; exact h
        · cases h
      · rename_i h3
        rw [if_neg h3]
        unfold signL at h ⊢
        split at h
        · cases h
        · rename_i h4
          split at h
          · cases h
          · rename_i h5
            split at h
            · rename_i h6
              have h4' : ¬ (c = 33 ∧ (a ++ 10 :: x).length ≤ i + 1) := fun hh => h4 ⟨hh.1, by have := hh.2; rw [List.length_append] at this; omega⟩
              rw [if_neg h4']
              rcases Nat.lt_or_ge (i + 1) a.length with hl | hl
              · have hg : (a ++ 10 :: x)[i + 1]? = a[i + 1]? := List.getElem?_append_left hl
                rw [hg, if_neg h5, if_pos h6, cut_ext _ (by omega : i + 1 ≤ a.length)]
                split at h
                · rename_i h7; rw [if_pos h7, cut_ext _ (by omega : i + 2 ≤ a.length)]; exact h
                · rename_i h7; rw [if_neg h7]; exact h
              · have hil : i + 1 = a.length := by omega
                have hg : (a ++ 10 :: x)[i + 1]? = some 10 := by rw [hil]; simp
                have hn : a[i + 1]? = none := List.getElem?_eq_none hl
                have h33 : c ≠ 33 := fun hh => h4 ⟨hh, hl⟩
                rw [hg, if_neg (fun hh => h33 hh.1), if_pos h6, cut_ext _ (by omega : i + 1 ≤ a.length), if_neg (fun hh => by have := hh.2; injection this with this; revert this; decide)]
                rw [hn, if_neg (fun hh => by cases hh.2)] at h
                exact h
            · cases h
theorem all_ext (a x : List UInt8) : ∀ (d i : Nat) (l l' : List Tok), a.length - i ≤ d → i ≤ a.length → allL a i l = (l', 0, 0) → allL (a ++ 10 :: x) i l = allL (a ++ 10 :: x) a.length l'
  | d, i, l, l', hd, hi, h => by
    rcases Nat.lt_or_ge i a.length with hlt | hge
    · cases d with
      | zero => omega
      | succ d =>
        obtain ⟨c, hc⟩ : ∃ c, a[i]? = some c := ⟨_, List.getElem?_eq_getElem hlt⟩
        rw [allL_step, hc] at h
        rw [allL_step, ext_get (10 :: x) hc]
        dsimp only at h ⊢
        split at h
        · rename_i h1; rw [if_pos h1]; exact all_ext a x d _ l l' (by omega) (by omega) h
        · rename_i h1
          rw [if_neg h1]
          split at h
          · rename_i h2
            have h3 := scan_ge notNl a (i + 1)
            have h4 := scan_le notNl a (i := i + 1) (by omega)
            rw [if_pos h2, scan_ext notNl (by decide) (by omega)]
            exact all_ext a x d _ l l' (by omega) h4 h
          · rename_i h2
            rw [if_neg h2]
            cases ho : oneL a i c with
            | inl v =>
              rw [ho] at h
              have := one_err' ho
              dsimp only at h
              injection h with _ h; injection h with _ h
              exact absurd h this
            | inr v =>
              rw [ho] at h
              rw [one_ext hc ho]
              have hn := oneL_next hc (t := v.1) (e := v.2) ho
              exact all_ext a x d _ _ l' (by omega) hn.2 h
    · obtain rfl : i = a.length := by omega
      rw [allL_step, List.getElem?_eq_none hge] at h
      injection h with h
      rw [h]
end

/-! ### Behind something -/
section
variable {p b : List UInt8}
def shift (n : Nat) (t : Tok) : Tok := ⟨t.kind, t.text, t.int, t.place + n⟩
theorem sh_get (i : Nat) : (p ++ b)[p.length + i]? = b[i]? := by
  rw [List.getElem?_append_right (by omega), Nat.add_sub_cancel_left]
theorem sh_scan (q : UInt8 → Bool) (i : Nat) : scan q (p ++ b) (p.length + i) = p.length + scan q b i := by
  unfold scan
  rw [show (p ++ b).drop (p.length + i) = b.drop i by rw [← List.drop_drop, List.drop_left], Nat.add_assoc]
theorem sh_cut (i e : Nat) : cutL (p ++ b) (p.length + i) (p.length + e) = cutL b i e := by
  unfold cutL
  rw [List.drop_take, List.drop_take, show (p ++ b).drop (p.length + i) = b.drop i by rw [← List.drop_drop, List.drop_left], show p.length + e - (p.length + i) = e - i by omega]
theorem sh_num (i : Nat) (h : (numL b i).2.2.2 = 0) : (numL (p ++ b) (p.length + i)).1 = (numL b i).1 ∧ (numL (p ++ b) (p.length + i)).2.1 = p.length + (numL b i).2.1 ∧ (numL (p ++ b) (p.length + i)).2.2.2 = 0 := by
  unfold numL at h ⊢
  rw [sh_get, sh_scan, sh_cut]
  have e1 : (p.length + i + 1 < p.length + scan digB b i) ↔ (i + 1 < scan digB b i) := by omega
  simp only [e1]
  split at h
  · cases h
  · rename_i h1
    rw [if_neg h1]
    split at h
    · cases h
    · rename_i h2
      rw [if_neg h2, if_neg h1, if_neg h2]
      by_cases h3 : scan digB b i < b.length
      · rw [dif_pos h3] at h
        rw [dif_pos h3, dif_pos (by rw [List.length_append]; omega)]
        have hg : (p ++ b)[p.length + scan digB b i]'(by rw [List.length_append]; omega) = b[scan digB b i] := by
          have := sh_get (p := p) (b := b) (scan digB b i)
          rw [List.getElem?_eq_getElem (by rw [List.length_append]; omega), List.getElem?_eq_getElem h3] at this
          injection this
        rw [hg]
        split at h
        · cases h
        · rename_i h4; rw [if_neg h4, if_neg h4]; exact ⟨rfl, rfl, rfl⟩
      · rw [dif_neg h3, dif_neg (by rw [List.length_append]; omega)]; exact ⟨rfl, rfl, rfl⟩
theorem sh_hex2 {k x nx : Nat} (h : hex2 b k = .inr (x, nx)) : hex2 (p ++ b) (p.length + k) = .inr (x, p.length + nx) := by
  unfold hex2 at h ⊢
  rw [sh_get]
  split at h
  · cases h
  · rename_i c hc
    split at h
    · cases h
    · rename_i d hd
      split at h
      · cases h
      · rename_i c2 hc2
        try rw [hd]
        try dsimp only
        rw [Nat.add_assoc, sh_get, hc2]
        dsimp only
        split at h
        · cases h
        · rename_i y hy
          try rw [hy]
          try dsimp only
          injection h with h; injection h with h1 h2
          rw [← h1, ← h2]; rfl
theorem sh_esc {k x nx : Nat} (h : escL b k = .inr (x, nx)) : escL (p ++ b) (p.length + k) = .inr (x, p.length + nx) := by
  unfold escL at h ⊢
  rw [sh_get]
  split at h
  · cases h
  · rename_i c hc
    try dsimp only
    split at h
    · rename_i h1; rw [if_pos h1]; injection h with h; injection h with h2 h3; rw [← h2, ← h3]; rfl
    · rename_i h1
      rw [if_neg h1]
      split at h
      · rename_i h2; rw [if_pos h2]; injection h with h; injection h with h3 h4; rw [← h3, ← h4]; rfl
      · rename_i h2
        rw [if_neg h2]
        split at h
        · rename_i h3; rw [if_pos h3, Nat.add_assoc]; exact sh_hex2 h
        · cases h
theorem sh_char {c : UInt8} {k x nx : Nat} (h : charL b c k = .inr (x, nx)) : charL (p ++ b) c (p.length + k) = .inr (x, p.length + nx) := by
  unfold charL at h ⊢
  split at h
  · rename_i h1; rw [if_pos h1, Nat.add_assoc]; exact sh_esc h
  · rename_i h1; rw [if_neg h1]; injection h with h; injection h with h2 h3; rw [← h2, ← h3]; rfl
theorem sh_textN (i : Nat) : ∀ (n k : Nat) (w : List UInt8), (textN n b i k w).2.2.2 = 0 → ∀ m j, n ≤ m →
    (textN m (p ++ b) j (p.length + k) w).1 = (textN n b i k w).1 ∧ (textN m (p ++ b) j (p.length + k) w).2.1 = p.length + (textN n b i k w).2.1 ∧ (textN m (p ++ b) j (p.length + k) w).2.2.2 = 0
  | 0, _, _, h, _, _, _ => by unfold textN at h; cases h
  | n + 1, k, w, h, 0, _, hm => by omega
  | n + 1, k, w, h, m + 1, j, hm => by
    unfold textN at h ⊢
    rw [sh_get]
    cases hc : b[k]? with
    | none => rw [hc] at h; cases h
    | some c =>
      rw [hc] at h
      dsimp only at h ⊢
      split at h
      · rename_i h1; rw [if_pos h1, if_pos h1]; exact ⟨rfl, rfl, rfl⟩
      · rename_i h1
        rw [if_neg h1, if_neg h1]
        split at h
        · cases h
        · rename_i h2
          rw [if_neg h2, if_neg h2]
          rcases hch : charL b c k with ⟨q, e⟩ | ⟨y, nx⟩
          · rw [hch] at h; exact absurd h (char_err hch)
          · rw [hch] at h
            rw [sh_char hch]
            dsimp only at h ⊢
            split at h
            · cases h
            · rename_i h3
              rw [if_neg h3, if_neg h3]
              exact sh_textN i n nx _ h m j (by omega)
theorem sh_one {i : Nat} {c : UInt8} {t : Tok} {e : Nat} (h : oneL b i c = .inr (t, e)) : oneL (p ++ b) (p.length + i) c = .inr (shift p.length t, p.length + e) := by
  unfold oneL at h ⊢
  split at h
  · rename_i h1
    rw [if_pos h1]
    unfold wordL at h ⊢
    rw [sh_scan, sh_cut, show p.length + scan innB b i - (p.length + i) = scan innB b i - i by omega]
    split at h
    · cases h
    · rename_i h2
      rw [if_neg h2]
      injection h with h; injection h with h3 h4
      rw [← h3, ← h4]; unfold shift; rw [Nat.add_comm p.length i]
  · rename_i h1
    rw [if_neg h1]
    split at h
    · rename_i h2
      rw [if_pos h2]
      unfold numT at h ⊢
      split at h
      · rename_i h0
        obtain ⟨e1, e2, e3⟩ := sh_num (p := p) i h0
        rw [if_pos e3, e1, e2]
        injection h with h; injection h with h3 h4
        rw [← h3, ← h4]; unfold shift; rw [Nat.add_comm p.length i]
      · cases h
    · rename_i h2
      rw [if_neg h2]
      split at h
      · rename_i h3
        rw [if_pos h3]
        unfold textT at h ⊢
        split at h
        · rename_i h0
          obtain ⟨e1, e2, e3⟩ := sh_textN (p := p) i b.length (i + 1) [] h0 (p ++ b).length (p.length + i) (by rw [List.length_append]; omega)
          have hk : textL (p ++ b) (p.length + i) (p.length + i + 1) [] = textN (p ++ b).length (p ++ b) (p.length + i) (p.length + (i + 1)) [] := rfl
          rw [hk, if_pos e3, e1, e2]
          injection h with h; injection h with h4 h5
          rw [← h4, ← h5]; unfold shift; rw [Nat.add_comm p.length i]; rfl
        · cases h
      · rename_i h3
        rw [if_neg h3]
        unfold signL at h ⊢
        rw [show p.length + i + 1 = p.length + (i + 1) from rfl, show p.length + i + 2 = p.length + (i + 2) from rfl, sh_get, sh_cut, sh_cut, List.length_append]
        have e1 : (p.length + b.length ≤ p.length + (i + 1)) ↔ (b.length ≤ i + 1) := by omega
        simp only [e1]
        split at h
        · cases h
        · rename_i h4
          rw [if_neg h4]
          split at h
          · cases h
          · rename_i h5
            rw [if_neg h5]
            split at h
            · rename_i h6
              rw [if_pos h6]
              split at h
              · rename_i h7
                rw [if_pos h7]
                injection h with h; injection h with h8 h9
                rw [← h8, ← h9]; unfold shift; rw [Nat.add_comm p.length i]
              · rename_i h7
                rw [if_neg h7]
                injection h with h; injection h with h8 h9
                rw [← h8, ← h9]; unfold shift; rw [Nat.add_comm p.length i]
            · cases h
theorem sh_all (p b : List UInt8) (acc : List Tok) : ∀ (d i : Nat) (l l' : List Tok), b.length - i ≤ d → i ≤ b.length → allL b i l = (l', 0, 0) → allL (p ++ b) (p.length + i) (acc ++ l.map (shift p.length)) = (acc ++ l'.map (shift p.length), 0, 0)
  | d, i, l, l', hd, hi, h => by
    rcases Nat.lt_or_ge i b.length with hlt | hge
    · cases d with
      | zero => omega
      | succ d =>
        obtain ⟨c, hc⟩ : ∃ c, b[i]? = some c := ⟨_, List.getElem?_eq_getElem hlt⟩
        rw [allL_step, hc] at h
        rw [allL_step, sh_get, hc]
        dsimp only at h ⊢
        split at h
        · rename_i h1; rw [if_pos h1]; exact sh_all p b acc d (i + 1) l l' (by omega) (by omega) h
        · rename_i h1
          rw [if_neg h1]
          split at h
          · rename_i h2
            have h3 := scan_ge notNl b (i + 1)
            have h4 := scan_le notNl b (i := i + 1) (by omega)
            rw [if_pos h2, Nat.add_assoc, sh_scan]
            exact sh_all p b acc d _ l l' (by omega) h4 h
          · rename_i h2
            rw [if_neg h2]
            rcases ho : oneL b i c with ⟨q, e⟩ | ⟨t, e⟩
            · rw [ho] at h
              have := one_err' ho
              dsimp only at h
              injection h with _ h; injection h with _ h
              exact absurd h this
            · rw [ho] at h
              rw [sh_one ho]
              have hn := oneL_next hc ho
              have ih := sh_all p b acc d e (l ++ [t]) l' (by omega) hn.2 h
              rw [List.map_append, ← List.append_assoc] at ih
              exact ih
    · rw [allL_step, List.getElem?_eq_none hge] at h
      rw [allL_step, List.getElem?_eq_none (by rw [List.length_append]; omega)]
      injection h with h
      rw [h]
end

/-! ### What is skipped -/
def Skips (m : List UInt8) : Prop := ∀ (p x : List UInt8) (l : List Tok), allL (p ++ (m ++ x)) p.length l = allL (p ++ (m ++ x)) (p.length + m.length) l
theorem skips_nil : Skips [] := fun _ _ _ => rfl
theorem skips_app {m k : List UInt8} (h : Skips m) (h2 : Skips k) : Skips (m ++ k) := fun p x l => by
  have e1 := h p (k ++ x) l
  have e2 := h2 (p ++ m) x l
  rw [List.append_assoc, List.length_append] at e2
  rw [List.append_assoc, e1, e2, List.length_append, Nat.add_assoc]
theorem skips_blank {c : UInt8} (h : c = 32 ∨ c = 10) : Skips [c] := fun p x l => by
  have hc : (p ++ ([c] ++ x))[p.length]? = some c := by simp
  rw [allL_step, hc]
  dsimp only
  rw [if_pos h]; rfl
theorem skips_many {c : UInt8} (h : c = 32 ∨ c = 10) : ∀ n, Skips (List.replicate n c)
  | 0 => skips_nil
  | n + 1 => by rw [List.replicate_succ]; exact skips_app (skips_blank h) (skips_many h n)
theorem skips_remark {r : List UInt8} (h : ∀ c ∈ r, c ≠ 10) : Skips (35 :: (r ++ [10])) := fun p x l => by
  have hc : (p ++ ((35 :: (r ++ [10])) ++ x))[p.length]? = some 35 := by simp
  rw [allL_step, hc]
  dsimp only
  rw [if_neg (by decide), if_pos rfl]
  have hs : scan notNl (p ++ ((35 :: (r ++ [10])) ++ x)) (p.length + 1) = p.length + 1 + r.length := by
    unfold scan
    have hd : (p ++ ((35 :: (r ++ [10])) ++ x)).drop (p.length + 1) = r ++ 10 :: x := by
      rw [← List.drop_drop, List.drop_left]
      simp
    rw [hd, takeWhile_ext notNl (by decide)]
    congr 1
    rw [takeWhile_all notNl r (fun c hc => by unfold notNl; exact decide_eq_true (h c hc))]
  rw [hs, allL_step]
  have h10 : (p ++ ((35 :: (r ++ [10])) ++ x))[p.length + 1 + r.length]? = some 10 := by
    rw [Nat.add_assoc, sh_get]
    rw [show (35 :: (r ++ [10])) ++ x = 35 :: (r ++ 10 :: x) by simp, show 1 + r.length = r.length + 1 by omega, List.getElem?_cons_succ]
    simp
  rw [h10]
  dsimp only
  rw [if_pos (.inr rfl)]
  congr 1
  simp
  omega

/-- **Blanks and remarks between two sources change nothing.** -/
theorem blanks_law {a m b : List UInt8} {la lb : List Tok} (hm : Skips m) (ha : allL a 0 [] = (la, 0, 0)) (hb : allL b 0 [] = (lb, 0, 0)) :
    allL (a ++ 10 :: (m ++ b)) 0 [] = (la ++ lb.map (shift (a.length + 1 + m.length)), 0, 0) := by
  rw [all_ext a (m ++ b) a.length 0 [] la (by omega) (by omega) ha]
  have h1 := skips_app (skips_blank (c := 10) (.inr rfl)) hm a b la
  have h2 := sh_all (a ++ (10 :: m)) b la b.length 0 [] lb (by omega) (by omega) hb
  have e : a ++ 10 :: m ++ b = a ++ ([10] ++ m ++ b) := by simp
  have e2 : (a ++ 10 :: m).length = a.length + 1 + m.length := by simp; omega
  rw [e, e2, Nat.add_zero, List.map_nil, List.append_nil] at h2
  have e3 : a.length + ([10] ++ m).length = a.length + 1 + m.length := by simp; omega
  rw [e3] at h1
  have e4 : a ++ 10 :: (m ++ b) = a ++ ([10] ++ m ++ b) := by simp
  rw [e4, h1, h2]
theorem all_ok {s : List UInt8} {i : Nat} {l l' : List Tok} {q e : Nat} (h : allL s i l = (l', q, e)) (he : e = 0) : q = 0 := by
  have key : ∀ (n : Nat) (i : Nat) (l : List Tok), (allN n s i l).2.2 = 0 → (allN n s i l).2.1 = 0 := by
    intro n
    induction n with
    | zero => intro i l _; rfl
    | succ n ih =>
      intro i l h
      unfold allN at h ⊢
      cases hc : s[i]? with
      | none => rfl
      | some c =>
        rw [hc] at h
        dsimp only at h ⊢
        split at h
        · rename_i h1; rw [if_pos h1]; exact ih _ _ h
        · rename_i h1
          rw [if_neg h1]
          split at h
          · rename_i h2; rw [if_pos h2]; exact ih _ _ h
          · rename_i h2
            rw [if_neg h2]
            rcases ho : oneL s i c with ⟨q, e⟩ | ⟨t, e⟩
            · rw [ho] at h; exact absurd h (one_err' ho)
            · rw [ho] at h; exact ih _ _ h
  have := key s.length i l (by have : allN s.length s i l = (l', q, e) := h; rw [this]; exact he)
  rw [show allN s.length s i l = (l', q, e) from h] at this
  exact this
end Go.Proofs.Ytlfkiaphmifelaa
