/- Rows of whole numbers, of twigs and of trees that a call itself makes: append. No walk. -/
import Derived.OwnWalk
import Derived.WalkSmall
import Derived.Test.YtpdofcjgpomehaaPln
namespace Go.Proofs.Ytpdofcjgpomehaa
open Go.RowKit

theorem news_of_blk {w : World} {g : Nat} {t : TypeId} {xs : List Value} (h : w.heap[g]? = some (.cells xs.toArray t (0, 0))) : ∀ j u, xs[j]? = some u → w.cell? ((⟨g, 0, none⟩ : Addr).add j) = some u := by
  intro j u hu
  rw [addr_add, Nat.zero_add, Blk.cell (show Blk w g t xs.toArray from h)]
  simpa using hu
def ncells (l : List Nat) : List Value := l.map fun i => .int .i64 (i : Nat)
theorem ncells_append (l m : List Nat) : ncells (l ++ m) = ncells l ++ ncells m := by simp [ncells]
theorem ncells_length (l : List Nat) : (ncells l).length = l.length := by simp [ncells]
theorem Try.info3 : (Try.prog.info? 3).map (fun i => (i.zero, i.size, i.bytes)) = some (some (.int .i64 0), 1, 8) := by kernel_rfl
/-- 'l = append(l, n)' for a list of whole numbers of the call's own. -/
theorem wpList_app_nat {ops : Array Oper} {rest : List Oper} {o : Oper} {a : Act} {W : World} {Q : Exit → Act → World → Prop} (hgd : o.guard = none) (sl x : Operand)
    (ho : o.op = .call { callee := .builtin .append, args := #[sl, x], argTypes := #[43, 43] }) (base g n cap : Nat) (A : Option Addr) (l : List Nat) (s : Nat)
    (hs : a.eval sl = .slice A n cap) (hown : W.ownsRow base 3 1 (.slice A n cap) n (ncells l)) (hx : a.eval x = .slice (some ⟨g, 0, none⟩) 1 1)
    (hg : W.heap[g]? = some (.cells #[.int .i64 (s : Nat)] 3 (0, 0))) (hm : n ≤ 100000) (hb : base ≤ W.heap.size)
    (h : ∀ A' c' W', W'.ownsRow base 3 1 (.slice A' (n + 1) c') (n + 1) (ncells (l ++ [s])) → W.grownBy W' (Value.slice A n cap).ownBlock → wpList Try.prog ops Q rest (a.put o.dst (.slice A' (n + 1) c')) W') :
    wpList Try.prog ops Q (o :: rest) a W := by
  obtain ⟨i0, hi0, hz0, hz1, hz2⟩ := info_parts Try.info3
  refine wpList_append_own _ hgd sl x 43 ho base 3 i0 (.int .i64 0) 1 8 Try.underlying43 hi0 hz0 hz1 hz2 rfl (by decide) (.slice A n cap) n (ncells l) hs hown ⟨g, 0, none⟩ 1 1 [.int .i64 (s : Nat)] hx rfl (news_of_blk hg) (by intro u hu; rw [List.mem_singleton] at hu; subst hu; rfl) (by unfold maxLen; omega) (by omega) hb ?_
  intro v3 w3 ho3 hg3 _
  obtain ⟨A3, c3, rfl, _⟩ := own_form ho3
  refine h A3 c3 w3 ?_ hg3
  rw [ncells_append]
  exact ho3
def wcells (l : List Tw) : List Value := l.flatMap fun x => (twCells x).toList
theorem wcells_append (l m : List Tw) : wcells (l ++ m) = wcells l ++ wcells m := by simp [wcells]
theorem wcells_length (l : List Tw) : (wcells l).length = l.length * 4 := by
  induction l with
  | nil => rfl
  | cons x l ih => unfold wcells at ih ⊢; rw [List.flatMap_cons, List.length_append, ih, List.length_cons]; simp; omega
theorem wcells_one {l : List Tw} : ∀ u ∈ wcells l, u.oneCell' = true := by
  intro u hu
  unfold wcells at hu
  rw [List.mem_flatMap] at hu
  obtain ⟨x, _, hx⟩ := hu
  simp only [List.mem_cons, List.not_mem_nil, or_false] at hx
  rcases hx with rfl | rfl | rfl | rfl <;> rfl
theorem wcells_get {l : List Tw} {k : Nat} {x : Tw} (h : l[k]? = some x) : (wcells l)[k * 4]? = some (.int .u8 (x.op : Nat)) ∧ (wcells l)[k * 4 + 1]? = some (.int .i64 x.kids) ∧ (wcells l)[k * 4 + 2]? = some (.int .i64 x.int) ∧ (wcells l)[k * 4 + 3]? = some (.string x.text) := by
  induction l generalizing k with
  | nil => cases h
  | cons y l ih =>
    cases k with
    | zero =>
      have : y = x := by simpa using h
      subst this
      exact ⟨rfl, rfl, rfl, rfl⟩
    | succ k =>
      have h2 := ih (k := k) (by simpa using h)
      have e : ∀ j, (wcells (y :: l))[(k + 1) * 4 + j]? = (wcells l)[k * 4 + j]? := by
        intro j
        unfold wcells
        rw [List.flatMap_cons, List.getElem?_append_right (by simp; omega)]
        congr 1
        simp
        omega
      have e0 := e 0
      rw [Nat.add_zero, Nat.add_zero] at e0
      rw [e0, e 1, e 2, e 3]
      exact h2
theorem Try.info33 : (Try.prog.info? 33).map (fun i => (i.zero, i.size, i.bytes)) = some (some (.agg #[.int .u8 0, .int .i64 0, .int .i64 0, .string ⟨#[]⟩]), 4, 40) := by kernel_rfl
/-- 'append(l, m...)' of twigs. -/
theorem wpList_app_twigs {ops : Array Oper} {rest : List Oper} {o : Oper} {a : Act} {W : World} {Q : Exit → Act → World → Prop} (hgd : o.guard = none) (sl x : Operand)
    (ho : o.op = .call { callee := .builtin .append, args := #[sl, x], argTypes := #[25, 25] }) (base n m cap c B : Nat) (A X : Option Addr) (l L : List Tw)
    (hs : a.eval sl = .slice A n cap) (hown : W.ownsRow base 33 4 (.slice A n cap) n (wcells l)) (hx : a.eval x = .slice X m c) (hr : Reads W B 4 X m (wcells L)) (hb : n + m ≤ 100000) (hbase : base ≤ W.heap.size)
    (h : ∀ A' c' W', W'.ownsRow base 33 4 (.slice A' (n + m) c') (n + m) (wcells (l ++ L)) → W.grownBy W' (Value.slice A n cap).ownBlock → wpList Try.prog ops Q rest (a.put o.dst (.slice A' (n + m) c')) W') :
    wpList Try.prog ops Q (o :: rest) a W := by
  obtain ⟨i0, hi0, hz0, hz1, hz2⟩ := info_parts Try.info33
  refine wpList_append_any W hgd sl x 25 ho base 33 i0 (.agg #[.int .u8 0, .int .i64 0, .int .i64 0, .string ⟨#[]⟩]) 4 40 Try.underlying25 hi0 hz0 hz1 hz2 rfl (by decide) (.slice A n cap) n (wcells l) hs hown B X m c (wcells L) hx hr wcells_one (by unfold maxLen; omega) (by omega) hbase ?_
  intro v3 w3 ho3 hg3 _
  obtain ⟨A3, c3, rfl, _⟩ := own_form ho3
  refine h A3 c3 w3 ?_ hg3
  rw [wcells_append]
  exact ho3
section
variable {w w' : World} {A : Option Addr} {l : List Tw}
theorem RdW.reads (h : RdW w A l) : Reads w w.heap.size 4 A l.length (wcells l) := by
  refine ⟨wcells_length l, fun hn => ?_⟩
  rcases h with h | ⟨b, off, hA, hb, hat⟩
  · rw [h] at hn; simp at hn
  · refine ⟨⟨b, off, none⟩, hA, hb, fun j u hu => ?_⟩
    have hj : j < (wcells l).length := (List.getElem?_eq_some_iff.1 hu).1
    rw [wcells_length] at hj
    have hk : j / 4 < l.length := by omega
    have hx : l[j / 4]? = some l[j / 4] := List.getElem?_eq_getElem hk
    have hg := wcells_get hx
    have ha := hat _ _ hx
    rw [addr_add]
    rcases (by omega : j = j / 4 * 4 ∨ j = j / 4 * 4 + 1 ∨ j = j / 4 * 4 + 2 ∨ j = j / 4 * 4 + 3) with e | e | e | e
    · rw [e, hg.1] at hu; rw [e]; injection hu with hu; subst hu
      exact ha.1
    · rw [e, hg.2.1] at hu; rw [e]; injection hu with hu; subst hu; exact ha.2.1
    · rw [e, hg.2.2.1] at hu; rw [e]; injection hu with hu; subst hu; exact ha.2.2.1
    · rw [e, hg.2.2.2] at hu; rw [e]; injection hu with hu; subst hu; exact ha.2.2.2
theorem RdW.of_own {base n c : Nat} (h : w.ownsRow base 33 4 (.slice A n c) n (wcells l)) (hn : n = l.length) : RdW w A l := by
  rcases Nat.eq_zero_or_pos n with h0 | h0
  · exact .inl (List.eq_nil_of_length_eq_zero (by omega))
  · obtain ⟨g, cap, hv, hb, hlt⟩ := h.form h0
    have hA : A = some ⟨g, 0, none⟩ := by injection hv
    subst hA
    refine .inr ⟨g, 0, rfl, hlt, fun k x hx => ?_⟩
    have hc := wcells_get hx
    have h0 := h.cells (g := g) rfl (k * 4) _ hc.1
    have h1 := h.cells (g := g) rfl (k * 4 + 1) _ hc.2.1
    have h2 := h.cells (g := g) rfl (k * 4 + 2) _ hc.2.2.1
    have h3 := h.cells (g := g) rfl (k * 4 + 3) _ hc.2.2.2
    rw [addr_add] at h0 h1 h2 h3
    exact ⟨h0, by rw [Nat.add_assoc]; exact h1, by rw [Nat.add_assoc]; exact h2, by rw [Nat.add_assoc]; exact h3⟩
theorem RdW.cut {b off : Nat} (h : RdW w (some ⟨b, off, none⟩) l) (i j : Nat) : RdW w (some ⟨b, off + i * 4, none⟩) ((l.take j).drop i) := by
  rcases h with h | ⟨b', off', hA, hb, hat⟩
  · exact .inl (by rw [h]; simp)
  · injection hA with hA
    injection hA with h1 h2
    subst h1; subst h2
    refine .inr ⟨b, off + i * 4, rfl, hb, fun k x hx => ?_⟩
    rw [List.getElem?_drop, List.getElem?_take] at hx
    split at hx
    · have := hat (i + k) x hx
      rw [show off + i * 4 + k * 4 = off + (i + k) * 4 by omega]
      exact this
    · cases hx
end
end Go.Proofs.Ytpdofcjgpomehaa
