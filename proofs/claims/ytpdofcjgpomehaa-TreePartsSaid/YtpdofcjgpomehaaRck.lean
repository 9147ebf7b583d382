/- Rows of open twigs; what the document's checker keeps. No walk. -/
import Derived.Test.YtpdofcjgpomehaaRpl
namespace Go.Proofs.Ytpdofcjgpomehaa
open Go.RowKit

def fcell (f : Fr) : List Value := [.int .u8 (f.op : Nat), .int .i64 (f.came : Nat), .int .i64 f.n]
def fcells (S : List Fr) : List Value := S.flatMap fcell
theorem fcells_append (l m : List Fr) : fcells (l ++ m) = fcells l ++ fcells m := by simp [fcells]
theorem fcells_length (l : List Fr) : (fcells l).length = l.length * 3 := by
  induction l with
  | nil => rfl
  | cons x l ih => unfold fcells at ih ⊢; rw [List.flatMap_cons, List.length_append, ih, List.length_cons]; simp [fcell]; omega
theorem Try.info56 : (Try.prog.info? 56).map (fun i => (i.zero, i.size, i.bytes)) = some (some (.agg #[.int .u8 0, .int .i64 0, .int .i64 0]), 3, 24) := by kernel_rfl
/-- 'l = append(l, Open{..})'. -/
theorem wpList_app_open {ops : Array Oper} {rest : List Oper} {o : Oper} {a : Act} {W : World} {Q : Exit → Act → World → Prop} (hgd : o.guard = none) (sl x : Operand)
    (ho : o.op = .call { callee := .builtin .append, args := #[sl, x], argTypes := #[53, 53] }) (base g n cap : Nat) (A : Option Addr) (l : List Fr) (f : Fr)
    (hs : a.eval sl = .slice A n cap) (hown : W.ownsRow base 56 3 (.slice A n cap) n (fcells l)) (hx : a.eval x = .slice (some ⟨g, 0, none⟩) 1 1)
    (hg : W.heap[g]? = some (.cells #[.int .u8 (f.op : Nat), .int .i64 (f.came : Nat), .int .i64 f.n] 56 (0, 0))) (hm : n ≤ 100000) (hb : base ≤ W.heap.size)
    (h : ∀ A' c' W', W'.ownsRow base 56 3 (.slice A' (n + 1) c') (n + 1) (fcells (l ++ [f])) → W.grownBy W' (Value.slice A n cap).ownBlock → wpList Try.prog ops Q rest (a.put o.dst (.slice A' (n + 1) c')) W') :
    wpList Try.prog ops Q (o :: rest) a W := by
  obtain ⟨i0, hi0, hz0, hz1, hz2⟩ := info_parts Try.info56
  refine wpList_append_own _ hgd sl x 53 ho base 56 i0 (.agg #[.int .u8 0, .int .i64 0, .int .i64 0]) 3 24 Try.underlying53 hi0 hz0 hz1 hz2 rfl (by decide) (.slice A n cap) n (fcells l) hs hown ⟨g, 0, none⟩ 1 1 (fcell f) hx rfl (news_of_blk hg) (by intro u hu; simp only [fcell, List.mem_cons, List.not_mem_nil, or_false] at hu; rcases hu with rfl | rfl | rfl <;> rfl) (by unfold maxLen; omega) (by omega) hb ?_
  intro v3 w3 ho3 hg3 _
  obtain ⟨A3, c3, rfl, _⟩ := own_form ho3
  refine h A3 c3 w3 ?_ hg3
  rw [fcells_append]
  have e : fcells [f] = fcell f := by simp [fcells]
  rw [e]
  exact ho3
/-- The innermost's cells are the last. -/
theorem fcells_last {S : List Fr} {f : Fr} {j : Nat} {v : Value} (hv : (fcell f)[j]? = some v) : (fcells (f :: S).reverse)[S.length * 3 + j]? = some v := by
  rw [List.reverse_cons, fcells_append, List.getElem?_append_right (by rw [fcells_length, List.length_reverse]; omega), fcells_length, List.length_reverse, Nat.add_sub_cancel_left]
  simpa [fcells] using hv
theorem fcells_came {S : List Fr} {f : Fr} {k : Nat} : (fcells (f :: S).reverse).set (S.length * 3 + 1) (.int .i64 (k : Nat)) = fcells ({ f with came := k } :: S).reverse := by
  rw [List.reverse_cons, List.reverse_cons, fcells_append, fcells_append, List.set_append_right _ _ (by rw [fcells_length, List.length_reverse]; omega), fcells_length, List.length_reverse, Nat.add_sub_cancel_left]
  rfl
/-- The stack while the innermost are being closed. -/
def close1 : List Fr → List Fr
  | [] => []
  | f :: S => closeF f S
/-- Open twigs are of the table, and none has more parts than it may. -/
def VF (S : List Fr) : Prop := (∀ f ∈ S, f.op < 256 ∧ ∃ x n, formOf f.op = some x ∧ f.n = (n : Nat) ∧ n ≤ x.most ∧ f.came ≤ n) ∧ ∀ f ∈ S.tail, (f.came : Int) < f.n
/-- The innermost is not at its end. -/
def Top1 : List Fr → Prop
  | [] => True
  | f :: _ => (f.came : Int) ≠ f.n
theorem vf_strict {S : List Fr} (h : VF S) (ht : Top1 S) : ∀ f ∈ S, (f.came : Int) < f.n := by
  intro f hf
  cases S with
  | nil => cases hf
  | cons g S =>
    rcases List.mem_cons.1 hf with rfl | hf
    · obtain ⟨x, n, h1, h2, h3, h4⟩ := (h.1 f (List.mem_cons_self ..)).2
      have h5 : (f.came : Int) ≠ f.n := ht
      omega
    · exact h.2 f hf
theorem close1_done {S : List Fr} (h : Top1 S) : close1 S = S := by
  cases S with
  | nil => rfl
  | cons f S => exact closeF_open h S
theorem close1_step {f g : Fr} {S : List Fr} (h : (f.came : Int) = f.n) : close1 (f :: g :: S) = close1 ({ g with came := g.came + 1 } :: S) := by
  show closeF f (g :: S) = closeF { g with came := g.came + 1 } S
  rw [closeF, if_pos h]
theorem fineB_split (x : Tw) (P : Nat → Bool) : fineB x P = (fineB x (fun _ => true) && P x.op) := by
  unfold fineB
  split
  · rfl
  · rename_i f _
    rw [Bool.true_and]
    cases P x.op <;> simp
theorem fine_fr {x : Tw} {P : Nat → Bool} (h : fineB x P = true) : ∃ f n, formOf x.op = some f ∧ x.kids = (n : Nat) ∧ n ≤ f.most := by
  unfold fineB at h
  split at h
  · cases h
  · rename_i f hf
    simp at h
    exact ⟨f, x.kids.toNat, hf, by omega, by omega⟩
end Go.Proofs.Ytpdofcjgpomehaa
