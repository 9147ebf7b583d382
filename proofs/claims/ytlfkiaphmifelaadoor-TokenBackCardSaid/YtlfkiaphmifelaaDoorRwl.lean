/- Rows of things of several cells each: what is read, and what stays. No walk. -/
import Derived.OneCell
import Derived.Test.YtlfkiaphmifelaaDoorChg
namespace Go.Proofs.YtlfkiaphmifelaaDoor
open Go.RowKit

/-! Rows of things of several cells each. -/
def rowOf {α : Type} (f : α → List Value) (l : List α) : List Value := l.flatMap f
section
variable {α : Type} {f : α → List Value} {k : Nat}
theorem rowOf_nil : rowOf f [] = [] := rfl
theorem rowOf_cons (x : α) (l : List α) : rowOf f (x :: l) = f x ++ rowOf f l := rfl
theorem rowOf_append (l m : List α) : rowOf f (l ++ m) = rowOf f l ++ rowOf f m := by unfold rowOf; rw [List.flatMap_append]
theorem rowOf_length (hk : ∀ x, (f x).length = k) (l : List α) : (rowOf f l).length = l.length * k := by
  induction l with
  | nil => simp [rowOf]
  | cons x l ih => rw [rowOf_cons, List.length_append, ih, hk, List.length_cons, Nat.succ_mul, Nat.add_comm]
theorem rowOf_get (hk : ∀ x, (f x).length = k) : ∀ (l : List α) (i : Nat) (x : α) (j : Nat) (v : Value), l[i]? = some x → (f x)[j]? = some v → (rowOf f l)[i * k + j]? = some v
  | [], i, x, j, v, h, _ => by simp at h
  | y :: l, 0, x, j, v, h, hj => by
    have : y = x := by simpa using h
    subst this
    have hlt := (List.getElem?_eq_some_iff.1 hj).1
    rw [rowOf_cons, Nat.zero_mul, Nat.zero_add, List.getElem?_append_left hlt]
    exact hj
  | y :: l, i + 1, x, j, v, h, hj => by
    rw [rowOf_cons, List.getElem?_append_right (by rw [hk, Nat.succ_mul]; omega), hk, show (i + 1) * k + j - k = i * k + j by rw [Nat.succ_mul]; omega]
    exact rowOf_get hk l i x j v (by simpa using h) hj
theorem rowOf_take (hk : ∀ x, (f x).length = k) (l : List α) (i : Nat) : rowOf f (l.take i) = (rowOf f l).take (i * k) := by
  induction l generalizing i with
  | nil => simp [rowOf]
  | cons x l ih =>
    cases i with
    | zero => simp [rowOf]
    | succ i => rw [List.take_succ_cons, rowOf_cons, rowOf_cons, ih, List.take_append, hk, Nat.succ_mul, List.take_of_length_le (l := f x) (by rw [hk]; omega), show i * k + k - k = i * k by omega]
theorem rowOf_drop (hk : ∀ x, (f x).length = k) (l : List α) (i : Nat) : rowOf f (l.drop i) = (rowOf f l).drop (i * k) := by
  induction l generalizing i with
  | nil => simp [rowOf]
  | cons x l ih =>
    cases i with
    | zero => simp [rowOf]
    | succ i => rw [List.drop_succ_cons, rowOf_cons, ih, List.drop_append, hk, Nat.succ_mul, List.drop_of_length_le (l := f x) (by rw [hk]; omega), show i * k + k - k = i * k by omega, List.nil_append]
theorem rowOf_one (hf : ∀ x, ∀ u ∈ f x, u.oneCell' = true) (l : List α) : ∀ u ∈ rowOf f l, u.oneCell' = true := by
  intro u hu
  unfold rowOf at hu
  rw [List.mem_flatMap] at hu
  obtain ⟨x, _, hx⟩ := hu
  exact hf x u hx
end
/-- A slice reads as a list of things of k cells each. -/
def RdL {α : Type} (f : α → List Value) (k : Nat) (w : World) (A : Option Addr) (l : List α) : Prop :=
  l = [] ∨ ∃ b off, A = some ⟨b, off, none⟩ ∧ b < w.heap.size ∧ ∀ i x, l[i]? = some x → ∀ j v, (f x)[j]? = some v → w.cell? ⟨b, off + i * k + j, none⟩ = some v
section
variable {α : Type} {f : α → List Value} {k : Nat} {w w' : World} {A : Option Addr} {l : List α}
theorem RdL.chg {T : Nat → Prop} (h : RdL f k w A l) (hc : Chg T w w') (hn : ∀ a, A = some a → l ≠ [] → ¬ T a.block) : RdL f k w' A l := by
  rcases h with h | ⟨b, off, rfl, hb, hat⟩
  · exact .inl h
  · by_cases hl : l = []
    · exact .inl hl
    · exact .inr ⟨b, off, rfl, Nat.lt_of_lt_of_le hb hc.size, fun i x hx j v hv => (World.cell?_of_block (hc.block b hb (hn _ rfl hl))).trans (hat i x hx j v hv)⟩
theorem RdL.below (h : RdL f k w A l) (hb : Below w.heap.size w w') : RdL f k w' A l := h.chg (T := fun _ => False) (.of_below hb) (fun _ _ _ h => h)
theorem RdL.of_own {base n c : Nat} {e : TypeId} (hk : ∀ x, (f x).length = k) (h : w.ownsRow base e k (.slice A n c) n (rowOf f l)) (hn : n = l.length) : RdL f k w A l := by
  rcases Nat.eq_zero_or_pos n with h0 | h0
  · exact .inl (List.eq_nil_of_length_eq_zero (by omega))
  · obtain ⟨g, cap, hv, hb, hlt⟩ := h.form h0
    have hA : A = some ⟨g, 0, none⟩ := by injection hv
    subst hA
    refine .inr ⟨g, 0, rfl, hlt, fun i x hx j v hv => ?_⟩
    have := h.cells (g := g) rfl (i * k + j) _ (rowOf_get hk l i x j v hx hv)
    rw [addr_add, ← Nat.add_assoc] at this
    exact this
theorem RdL.cut {b off : Nat} (h : RdL f k w (some ⟨b, off, none⟩) l) (i j : Nat) : RdL f k w (some ⟨b, off + i * k, none⟩) ((l.take j).drop i) := by
  rcases h with h | ⟨b', off', he, hb, hat⟩
  · exact .inl (by rw [h]; simp)
  · injection he with he
    injection he with e1 e2
    subst e1; subst e2
    refine .inr ⟨b, off + i * k, rfl, hb, fun m x hx q v hv => ?_⟩
    have hm : l[i + m]? = some x := by
      rw [List.getElem?_drop, List.getElem?_take] at hx
      split at hx
      · exact hx
      · cases hx
    have := hat (i + m) x hm q v hv
    rw [show off + i * k + m * k + q = off + (i + m) * k + q by rw [Nat.add_mul]; omega]
    exact this
theorem RdL.reads (hk : ∀ x, (f x).length = k) (h : RdL f k w A l) : Reads w w.heap.size k A l.length (rowOf f l) := by
  refine ⟨rowOf_length hk l, fun hn => ?_⟩
  rcases h with h | ⟨b, off, rfl, hb, hat⟩
  · rw [h] at hn; simp at hn
  · refine ⟨_, rfl, hb, fun j u hu => ?_⟩
    have hlt := (List.getElem?_eq_some_iff.1 hu).1
    rw [rowOf_length hk] at hlt
    rcases Nat.eq_zero_or_pos k with h0 | h0
    · rw [h0] at hlt; simp at hlt
    · have hq : j / k < l.length := Nat.div_lt_of_lt_mul (by rw [Nat.mul_comm]; exact hlt)
      have hx : l[j / k]? = some l[j / k] := List.getElem?_eq_getElem hq
      have hr : j % k < (f l[j / k]).length := by rw [hk]; exact Nat.mod_lt _ h0
      have h1 := rowOf_get hk l (j / k) _ (j % k) _ hx (List.getElem?_eq_getElem hr)
      have e : j / k * k + j % k = j := by rw [Nat.mul_comm]; exact Nat.div_add_mod j k
      rw [e, hu] at h1
      have h2 := hat (j / k) _ hx (j % k) _ (List.getElem?_eq_getElem hr)
      rw [Nat.add_assoc, e] at h2
      rw [addr_add, h2, h1]
end

end Go.Proofs.YtlfkiaphmifelaaDoor
