/- Plain law of StickyLast, round by round. -/
import Derived.Test.YtnipmhidiiondaaFrs
namespace Go.Proofs.Ytnipmhidiiondaa
open Go.RowKit Go.Maps

def RdB (w : World) (A : Option Addr) (l : List ByteArray) : Prop := l = [] ∨ ∃ b off, A = some ⟨b, off, none⟩ ∧ b < w.heap.size ∧ ∀ k s, l[k]? = some s → w.cell? ⟨b, off + k, none⟩ = some (.string s)
theorem rdB_of {w : World} {A : Option Addr} {l : List ByteArray} (h : RdT w A l) (hb : ∀ x, A = some x → 0 < l.length → x.block < w.heap.size) : RdB w A l := by
  rcases h with h | ⟨b, o, hA, h⟩
  · exact .inl h
  · rcases Nat.eq_zero_or_pos l.length with h0 | h0
    · exact .inl (List.eq_nil_of_length_eq_zero h0)
    · exact .inr ⟨b, o, hA, hb _ hA h0, h⟩
theorem RdB.keep {w w' : World} {A : Option Addr} {l : List ByteArray} (h : RdB w A l) (hb : Below w.heap.size w w') : RdB w' A l := by
  rcases h with h | ⟨b, off, rfl, hlt, h⟩
  · exact .inl h
  · exact .inr ⟨b, off, rfl, Nat.lt_of_lt_of_le hlt hb.size, fun k s hs => (hb.cell (p := ⟨b, _, none⟩) hlt).trans (h k s hs)⟩
theorem RdB.take {w : World} {A : Option Addr} {l : List ByteArray} (h : RdB w A l) (i : Nat) : RdT w A (l.take i) := by
  rcases h with h | ⟨b, off, rfl, _, h⟩
  · exact .inl (by rw [h]; simp)
  · refine .inr ⟨b, off, rfl, fun k s hs => h k s ?_⟩
    rw [List.getElem?_take] at hs
    split at hs
    · exact hs
    · cases hs
/-- The last place of a name, so far. -/
def LI (l : List ByteArray) (s : ByteArray) (k : Nat) (v : Int) : Prop := (v = -1 ∧ s ∉ l.take k) ∨ ∃ j : Nat, v = (j : Int) ∧ j < k ∧ l[j]? = some s ∧ s ∉ seg l (j + 1) k
section
variable {l N : List ByteArray} {s y : ByteArray} {k i j r : Nat} {v : Int} {L : List Ent} {A : Abs}
theorem LI.start : LI l s 0 (-1) := .inl ⟨rfl, by simp⟩
theorem LI.yes (h : l[k]? = some s) : LI l s (k + 1) k := .inr ⟨k, rfl, by omega, h, by rw [seg_nil]; simp⟩
theorem take_snoc (h : l[k]? = some y) : l.take (k + 1) = l.take k ++ [y] := by rw [List.take_add_one, h]; rfl
theorem LI.no (h : LI l s k v) (hy : l[k]? = some y) (hne : y ≠ s) : LI l s (k + 1) v := by
  have hne' : ¬ s = y := fun e => hne e.symm
  rcases h with ⟨rfl, h⟩ | ⟨j, rfl, hj, h1, h2⟩
  · exact .inl ⟨rfl, by rw [take_snoc hy]; simp [h, hne']⟩
  · exact .inr ⟨j, rfl, by omega, h1, by rw [seg_snoc (by omega) hy]; simp [h2, hne']⟩
theorem LI.bds (h : LI l s k v) : -1 ≤ v ∧ v < k ∨ v = -1 := by
  rcases h with ⟨rfl, _⟩ | ⟨j, rfl, hj, _, _⟩
  · exact .inr rfl
  · exact .inl ⟨by omega, by omega⟩
theorem want_no (hL : L.map (·.1) = (rc (N.take i)).take r) (h : s ∉ N.take i) : (lk L s).isSome = false := by
  rw [lk_isSome, hL]; exact decide_eq_false (not_there h r)
theorem want_yes (hL : L.map (·.1) = (rc (N.take i)).take r) (hj : N[j]? = some s) (hji : j < i) (hn : s ∉ seg N (j + 1) i) : (lk L s).isSome = decide (dcnt s ((N.take i).drop (j + 1)) < r) := by
  have e1 : (N.take i).drop (j + 1) = seg N (j + 1) i := by rw [List.drop_take]; rfl
  have hj2 : (N.take i)[j]? = some s := by rw [List.getElem?_take_of_lt hji]; exact hj
  obtain ⟨hlt, hg⟩ := List.getElem?_eq_some_iff.1 hj2
  have e2 : N.take i = (N.take i).take j ++ s :: (N.take i).drop (j + 1) := by
    conv => lhs; rw [← List.take_append_drop j (N.take i), List.drop_eq_getElem_cons hlt, hg]
  rw [lk_isSome, hL, e1]
  have h := there_iff (pre := (N.take i).take j) (ys := (N.take i).drop (j + 1)) (x := s) (by rw [e1]; exact hn) r
  rw [← e2, e1] at h
  by_cases hd : dcnt s (seg N (j + 1) i) < r
  · rw [decide_eq_true hd]; exact decide_eq_true (h.2 hd)
  · rw [decide_eq_false hd]; exact decide_eq_false (fun e => hd (h.1 e))
theorem getL_val {n : Int} (h : ∀ x ∈ L, x.2 < n) : ∀ x ∈ getL L s, x.2 < n := by
  intro x hx
  unfold getL at hx
  cases hl : lk L s with
  | none => rw [hl] at hx; exact h x hx
  | some u =>
    rw [hl] at hx
    rcases List.mem_cons.1 hx with hx | hx
    · rw [hx]; exact h (s, u) (lk_mem hl)
    · exact h x ((List.mem_filter.1 hx).1)
theorem putL_val {n : Int} (h : ∀ x ∈ L, x.2 < n) (hv : v < n) : ∀ x ∈ putL r L s v, x.2 < n := by
  intro x hx
  unfold putL at hx
  split at hx
  · rcases List.mem_cons.1 hx with hx | hx
    · rw [hx]; exact hv
    · exact h x ((List.mem_filter.1 hx).1)
  · split at hx
    · rcases List.mem_cons.1 hx with hx | hx
      · rw [hx]; exact hv
      · exact h x (List.dropLast_sublist _ |>.mem hx)
    · rcases List.mem_cons.1 hx with hx | hx
      · rw [hx]; exact hv
      · exact h x hx
/-- What the cache holds once i names were touched. -/
structure Pu (N : List ByteArray) (r i : Nat) (A : Abs) : Prop where
  one : 1 ≤ r
  room : A.room = r
  names : A.L.map (·.1) = (rc (N.take i)).take r
  vals : ∀ x ∈ A.L, x.2 < i
  hits : A.hits ≤ i
  misses : A.misses ≤ i
theorem Pu.hit (h : Pu N r i A) (hs : N[i]? = some s) (hl : (lk A.L s).isSome = true) : Pu N r (i + 1) (getA A s) := by
  refine ⟨h.one, h.room, ?_, ?_, ?_, ?_⟩
  · have e := map_step r A.L s 0
    rw [if_pos hl, h.names, touch_rc _ _ h.one, ← take_snoc hs] at e
    exact e
  · intro x hx
    have := getL_val h.vals x hx
    omega
  · have := h.hits; unfold getA; dsimp only; split <;> omega
  · have := h.misses; unfold getA; dsimp only; split <;> omega
theorem Pu.miss (h : Pu N r i A) (hs : N[i]? = some s) (hl : (lk A.L s).isSome = false) : Pu N r (i + 1) (putA (getA A s) s i) := by
  refine ⟨h.one, h.room, ?_, ?_, ?_, ?_⟩
  · have e := map_step r A.L s i
    rw [if_neg (by rw [hl]; decide), h.names, touch_rc _ _ h.one, ← take_snoc hs] at e
    rw [← e]
    show (putL A.room _ _ _).map _ = _
    rw [h.room]; rfl
  · intro x hx
    exact putL_val (n := (i + 1 : Nat)) (fun y hy => by have := getL_val h.vals y hy; omega) (by omega) x hx
  · have := h.hits; show (getA A s).hits ≤ _; unfold getA; dsimp only; split <;> omega
  · have := h.misses; show (getA A s).misses ≤ _; unfold getA; dsimp only; split <;> omega
theorem Pu.val (h : Pu N r i A) {u : Int} (hl : lk A.L s = Option.some u) : u < i := h.vals _ (lk_mem hl)
theorem Pu.first (h : Pu N r N.length A) {z : ByteArray} (hz : N[N.length - 1]? = Option.some z) : (A.L.map (·.1))[0]? = Option.some z ∧ 0 < (A.L.map (·.1)).length := by
  have hlt := (List.getElem?_eq_some_iff.1 hz).1
  have e : N = N.take (N.length - 1) ++ [z] := by
    rw [← take_snoc hz, show N.length - 1 + 1 = N.length by omega, List.take_length]
  have h1 := h.one
  rw [h.names, List.take_length, e, rc_snoc]
  obtain ⟨q, rfl⟩ : ∃ q, r = q + 1 := ⟨r - 1, by omega⟩
  rw [List.take_succ_cons]
  exact ⟨rfl, by simp⟩
end
/-- The cache that the call itself has made. -/
structure One (w : World) (B g : Nat) (A : Abs) (p : Pls) (w' : World) : Prop where
  c : CRep w' g A p
  oc : ∀ b, Own g p b → B ≤ b
  bel : Below B w w'
  le : B ≤ w'.heap.size
section
variable {w w1 w2 : World} {B g : Nat} {A A' : Abs} {p : Pls}
theorem One.keep (h : One w B g A p w1) (k : KeepsA w1 g p A' w2) : ∃ p', One w B g A' p' w2 := by
  obtain ⟨p', k1, k2, k3⟩ := k
  exact ⟨p', k1, fun b hb => (k3 b hb).elim (h.oc b) (fun h1 => Nat.le_trans h.le h1), Chg.below h.bel k2 h.le h.oc, Nat.le_trans h.le k2.size⟩
theorem One.below (h : One w B g A p w1) (hb : Below w1.heap.size w1 w2) : One w B g A p w2 :=
  ⟨h.c.below hb, h.oc, h.bel.trans (hb.mono h.le), Nat.le_trans h.le hb.size⟩
end
theorem len_c (g : Nat) (A : Abs) (p : Pls) (w : World) (h : CRep w g A p) :
    Calls Try.prog 14 #[.pointer (some ⟨g, 0, none⟩)] w fun e w' => e = .returned (.int .i64 (A.L.length : Nat)) ∧ w' = w := by
  obtain ⟨S, q, hh⟩ := h
  have := len_any g S p w hh.rep
  rw [hh.inv.m] at this
  exact this
end Go.Proofs.Ytnipmhidiiondaa
