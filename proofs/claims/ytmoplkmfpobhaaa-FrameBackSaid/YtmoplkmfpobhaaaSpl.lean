/- Lists of bodies: what frames say, and how lists of bytes lie in memory. -/
import Derived.Test.YtmoplkmfpobhaaaRr
import Derived.Test.YtmoplkmfpobhaaaKx
namespace Go.Proofs.Ytmoplkmfpobhaaa
open Go.RowKit

theorem used_pos {l : List UInt8} (h : (lookL l).2.2 = 0) : 12 ≤ usedL l ∧ usedL l ≤ l.length := by
  have := lookL_ok h
  unfold usedL
  rw [if_pos h]
  omega

/-- The bodies of frames, how many bytes they have, and what is wrong behind them; n: at most so many. -/
def splN : Nat → List UInt8 → List (List UInt8) × Nat × Nat
  | 0, _ => ([], 0, 0)
  | n + 1, l => if l = [] then ([], 0, 0) else if (lookL l).2.2 = 0 then (bodyL l :: (splN n (l.drop (usedL l))).1, usedL l + (splN n (l.drop (usedL l))).2.1, (splN n (l.drop (usedL l))).2.2) else ([], 0, (lookL l).2.2)
def spl (l : List UInt8) : List (List UInt8) × Nat × Nat := splN l.length l
theorem splN_more : ∀ (n m : Nat) (l : List UInt8), l.length ≤ n → n ≤ m → splN m l = splN n l
  | 0, m, l, h, _ => by
    have : l = [] := List.eq_nil_of_length_eq_zero (by omega)
    subst this
    cases m <;> simp [splN]
  | n + 1, 0, l, _, h2 => by omega
  | n + 1, m + 1, l, h1, h2 => by
    unfold splN
    by_cases h0 : l = []
    · rw [if_pos h0, if_pos h0]
    · rw [if_neg h0, if_neg h0]
      by_cases he : (lookL l).2.2 = 0
      · have hu := used_pos he
        rw [if_pos he, if_pos he, splN_more n m (l.drop (usedL l)) (by rw [List.length_drop]; omega) (by omega)]
      · rw [if_neg he, if_neg he]
theorem spl_nil : spl [] = ([], 0, 0) := rfl
theorem spl_err {l : List UInt8} (h0 : l ≠ []) (he : (lookL l).2.2 ≠ 0) : spl l = ([], 0, (lookL l).2.2) := by
  have : l.length ≠ 0 := fun h => h0 (List.eq_nil_of_length_eq_zero h)
  obtain ⟨k, hk⟩ : ∃ k, l.length = k + 1 := ⟨l.length - 1, by omega⟩
  unfold spl
  rw [hk]
  unfold splN
  rw [if_neg h0, if_neg he]
theorem spl_cons {l : List UInt8} (h0 : l ≠ []) (he : (lookL l).2.2 = 0) : spl l = (bodyL l :: (spl (l.drop (usedL l))).1, usedL l + (spl (l.drop (usedL l))).2.1, (spl (l.drop (usedL l))).2.2) := by
  have hu := used_pos he
  obtain ⟨k, hk⟩ : ∃ k, l.length = k + 1 := ⟨l.length - 1, by omega⟩
  have hd : splN k (l.drop (usedL l)) = spl (l.drop (usedL l)) := splN_more _ _ _ (Nat.le_refl _) (by rw [List.length_drop]; omega)
  show splN l.length l = _
  rw [hk]
  show (if l = [] then _ else _) = _
  rw [if_neg h0, if_pos he, hd]

/-- So far: the bodies ahead of a place, and what the rest says. -/
def SplAt (l : List UInt8) (p : Nat) (bs : List (List UInt8)) : Prop := p ≤ l.length ∧ spl l = (bs ++ (spl (l.drop p)).1, p + (spl (l.drop p)).2.1, (spl (l.drop p)).2.2) ∧ 12 * bs.length ≤ p
theorem splAt_zero (l : List UInt8) : SplAt l 0 [] := ⟨Nat.zero_le _, by simp, by simp⟩
theorem SplAt.next {l : List UInt8} {p : Nat} {bs : List (List UInt8)} (h : SplAt l p bs) (hp : p < l.length) (he : (lookL (l.drop p)).2.2 = 0) : SplAt l (p + usedL (l.drop p)) (bs ++ [bodyL (l.drop p)]) := by
  have h0 : l.drop p ≠ [] := fun h => by have := congrArg List.length h; rw [List.length_drop, List.length_nil] at this; omega
  have hu := used_pos he
  rw [List.length_drop] at hu
  refine ⟨by omega, ?_, by rw [List.length_append, List.length_singleton]; have := h.2.2; omega⟩
  rw [h.2.1, spl_cons h0 he, List.drop_drop]
  simp [Nat.add_assoc]
theorem SplAt.err {l : List UInt8} {p : Nat} {bs : List (List UInt8)} (h : SplAt l p bs) (hp : p < l.length) (he : (lookL (l.drop p)).2.2 ≠ 0) : spl l = (bs, p, (lookL (l.drop p)).2.2) := by
  have h0 : l.drop p ≠ [] := fun h => by have := congrArg List.length h; rw [List.length_drop, List.length_nil] at this; omega
  rw [h.2.1, spl_err h0 he]; simp
theorem SplAt.done {l : List UInt8} {bs : List (List UInt8)} (h : SplAt l l.length bs) : spl l = (bs, l.length, 0) := by
  rw [h.2.1, List.drop_length, spl_nil]; simp

/-- Bytes in memory of their own. -/
def Bod (w : World) (base : Nat) (u : Value) (l : List UInt8) : Prop := ∃ A c, u = .slice A l.length c ∧ w.ownsRow base 5 1 u l.length (bcells l)
theorem Bod.kept {w w' : World} {base : Nat} {u : Value} {l : List UInt8} (h : Bod w base u l) {row : Option Nat} (hg : w.grownBy w' row) (hne : u.ownBlock = none ∨ u.ownBlock ≠ row) : Bod w' base u l := by
  obtain ⟨A, c, he, ho⟩ := h
  exact ⟨A, c, he, ho.kept hg hne⟩
theorem Bod.below {w w' : World} {base : Nat} {u : Value} {l : List UInt8} (h : Bod w base u l) (hb : Below w.heap.size w w') : Bod w' base u l := by
  obtain ⟨A, c, he, ho⟩ := h
  exact ⟨A, c, he, own_below ho hb⟩
theorem Bod.mono {w : World} {base base' : Nat} {u : Value} {l : List UInt8} (h : Bod w base u l) (hb : base' ≤ base) : Bod w base' u l := by
  obtain ⟨A, c, he, ho⟩ := h
  exact ⟨A, c, he, own_mono ho hb⟩
theorem own_ne {w : World} {b1 b2 : Nat} {e1 e2 : TypeId} {s1 s2 n1 n2 : Nat} {u v : Value} {xs ys : List Value} (h : w.ownsRow b1 e1 s1 u n1 xs) (k : w.ownsRow b2 e2 s2 v n2 ys) (hne : e1 ≠ e2) : u.ownBlock = none ∨ u.ownBlock ≠ v.ownBlock := by
  rcases h.2 with ⟨rfl, _⟩ | ⟨g, cap, cur, rfl, _, hh, _⟩
  · exact .inl rfl
  · refine .inr ?_
    rcases k.2 with ⟨rfl, _⟩ | ⟨g', cap', cur', rfl, _, hh', _⟩
    · simp [Value.ownBlock]
    · intro he
      have : g = g' := by simpa [Value.ownBlock] using he
      subst this
      exact Blk.ne_ (t := e1) hh hh' hne rfl
/-- A list of bytes' lists, all in memory of their own. -/
def LL (w : World) (base : Nat) (v : Value) (ls : List (List UInt8)) : Prop := ∃ us : List Value, w.ownsRow base 22 1 v ls.length us ∧ us.length = ls.length ∧ ∀ (i : Nat) (u : Value) (l : List UInt8), us[i]? = some u → ls[i]? = some l → Bod w base u l
theorem LL.nil_ (w : World) (base : Nat) : LL w base (.slice none 0 0) [] := ⟨[], World.ownsRow_nil _ _ _ _, rfl, fun i u l h => by simp at h⟩
theorem LL.below {w w' : World} {base : Nat} {v : Value} {ls : List (List UInt8)} (h : LL w base v ls) (hb : Below w.heap.size w w') : LL w' base v ls := by
  obtain ⟨us, ho, hl, hu⟩ := h
  exact ⟨us, own_below ho hb, hl, fun i u l h1 h2 => (hu i u l h1 h2).below hb⟩
theorem LL.kept {w w' : World} {base : Nat} {v : Value} {ls : List (List UInt8)} (h : LL w base v ls) {row : Option Nat} (hg : w.grownBy w' row) (hr : ∀ r, row = some r → r < base) : LL w' base v ls := by
  obtain ⟨us, ho, hl, hu⟩ := h
  have key : ∀ {e : TypeId} {u : Value} {n : Nat} {xs : List Value}, w.ownsRow base e 1 u n xs → u.ownBlock = none ∨ u.ownBlock ≠ row := fun {e u n xs} ho => by
    cases hb : u.ownBlock with
    | none => exact .inl rfl
    | some g => exact .inr fun he => by have h1 := (World.ownsRow.lt ho g hb).1; have h2 := hr g he.symm; omega
  exact ⟨us, ho.kept hg (key ho), hl, fun i u l h1 h2 => by obtain ⟨A, c, he, ho'⟩ := hu i u l h1 h2; exact ⟨A, c, he, ho'.kept hg (key ho')⟩⟩
theorem LL.snoc {w w' : World} {base : Nat} {v v' u : Value} {ls : List (List UInt8)} {us : List Value} {l : List UInt8} (ho : w.ownsRow base 22 1 v ls.length us) (hl : us.length = ls.length) (hu : ∀ (i : Nat) (u : Value) (l : List UInt8), us[i]? = some u → ls[i]? = some l → Bod w base u l)
    (hb : Bod w base u l) (ho' : w'.ownsRow base 22 1 v' (ls.length + 1) (us ++ [u])) (hg : w.grownBy w' v.ownBlock) : LL w' base v' (ls ++ [l]) := by
  have kk : ∀ (u : Value) (l : List UInt8), Bod w base u l → Bod w' base u l := fun u l hh => by
    obtain ⟨A, c, he, ho2⟩ := hh
    exact ⟨A, c, he, ho2.kept hg (own_ne ho2 ho (by decide))⟩
  refine ⟨us ++ [u], by rw [List.length_append, List.length_singleton]; exact ho', by simp [hl], fun i x y h1 h2 => ?_⟩
  rw [List.getElem?_append] at h1 h2
  by_cases hi : i < us.length
  · rw [if_pos hi] at h1
    rw [if_pos (by omega)] at h2
    exact kk _ _ (hu i x y h1 h2)
  · rw [if_neg hi] at h1
    rw [if_neg (by omega)] at h2
    have h0 : i - us.length = 0 := by
      rcases Nat.eq_zero_or_pos (i - us.length) with h | h
      · exact h
      · rw [List.getElem?_eq_none (by simp; omega)] at h1; cases h1
    rw [h0] at h1
    rw [← hl, h0] at h2
    have e1 : u = x := by simpa using h1
    have e2 : l = y := by simpa using h2
    rw [← e1, ← e2]
    exact kk _ _ hb
theorem LL.mono {w : World} {base base' : Nat} {v : Value} {ls : List (List UInt8)} (h : LL w base v ls) (hb : base' ≤ base) : LL w base' v ls := by
  obtain ⟨us, ho, hl, hu⟩ := h
  exact ⟨us, own_mono ho hb, hl, fun i u l h1 h2 => (hu i u l h1 h2).mono hb⟩
theorem LL.form {w : World} {base : Nat} {v : Value} {ls : List (List UInt8)} (h : LL w base v ls) : ∃ A c, v = .slice A ls.length c ∧ ls.length ≤ c := by
  obtain ⟨us, ho, _⟩ := h
  exact own_form ho

/-- A list of bytes' lists that can be read below B. -/
def RL (w : World) (B : Nat) (A : Option Addr) (ls : List (List UInt8)) : Prop :=
  ∃ us : List Value, Reads w B 1 A ls.length us ∧ ∀ (i : Nat) (u : Value) (l : List UInt8), us[i]? = some u → ls[i]? = some l → ∃ A' c', u = .slice A' l.length c' ∧ Reads w B 1 A' l.length (bcells l)
theorem LL.rl {w : World} {base c : Nat} {A : Option Addr} {ls : List (List UInt8)} (h : LL w base (.slice A ls.length c) ls) : RL w w.heap.size A ls := by
  obtain ⟨us, ho, hl, hu⟩ := h
  refine ⟨us, Reads.of_own ho, fun i u l h1 h2 => ?_⟩
  obtain ⟨A', c', he, ho'⟩ := hu i u l h1 h2
  subst he
  exact ⟨A', c', rfl, Reads.of_own ho'⟩
theorem RL.below {w w' : World} {B : Nat} {A : Option Addr} {ls : List (List UInt8)} (h : RL w B A ls) (hb : Below B w w') : RL w' B A ls := by
  obtain ⟨us, hr, hu⟩ := h
  refine ⟨us, hr.below hb, fun i u l h1 h2 => ?_⟩
  obtain ⟨A', c', he, ho'⟩ := hu i u l h1 h2
  exact ⟨A', c', he, ho'.below hb⟩
theorem RL.more {w : World} {B B' : Nat} {A : Option Addr} {ls : List (List UInt8)} (h : RL w B A ls) (hb : B ≤ B') : RL w B' A ls := by
  obtain ⟨us, hr, hu⟩ := h
  refine ⟨us, hr.more hb, fun i u l h1 h2 => ?_⟩
  obtain ⟨A', c', he, ho'⟩ := hu i u l h1 h2
  exact ⟨A', c', he, ho'.more hb⟩
theorem RL.at_ {w : World} {B : Nat} {A : Option Addr} {ls : List (List UInt8)} (h : RL w B A ls) {k : Nat} (hk : k < ls.length) :
    ∃ b off A' c', A = some ⟨b, off, none⟩ ∧ w.cell? ⟨b, off + k, none⟩ = some (.slice A' ls[k].length c') ∧ Reads w B 1 A' ls[k].length (bcells ls[k]) := by
  obtain ⟨us, hr, hu⟩ := h
  obtain ⟨b, off, hA, _, hc⟩ := hr.place (by omega)
  have hl : us.length = ls.length := by have := hr.1; omega
  have h1 : us[k]? = some us[k] := List.getElem?_eq_getElem (by omega)
  obtain ⟨A', c', he, hr'⟩ := hu k _ _ h1 (List.getElem?_eq_getElem hk)
  exact ⟨b, off, A', c', hA, by rw [hc k _ h1, he], hr'⟩
end Go.Proofs.Ytmoplkmfpobhaaa
