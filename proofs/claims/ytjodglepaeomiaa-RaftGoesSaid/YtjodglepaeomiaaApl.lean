/- A row that is full is appended to: a law at the operation. -/
import Derived.Test.YtjodglepaeomiaaTol
namespace Go.Proofs.Ytjodglepaeomiaa
open Go.RowKit

theorem wp_app_full {o : Oper} {a : Act} {W : World} {K : Act → World → Prop} {Q : Exit → Act → World → Prop} (sl x : Operand)
    (ho : o.op = .call { callee := .builtin .append, args := #[sl, x], argTypes := #[27, 27] }) (n m c B B0 : Nat) (A X : Option Addr) (l L : List Ent)
    (hs : a.eval sl = .slice A n n) (hr0 : Reads W B0 2 A n (rowOf ecell l)) (hx : a.eval x = .slice X m c) (hr : Reads W B 2 X m (rowOf ecell L)) (hm : 0 < m) (hA : A = none → n = 0) (hb : n + m ≤ 100000)
    (h : ∀ A' c' W', W'.ownsRow W.heap.size 39 2 (.slice A' (n + m) c') (n + m) (rowOf ecell (l ++ L)) → W.grownBy W' none → K (a.put o.dst (.slice A' (n + m) c')) W') :
    o.wp Try.prog a W K Q := by
  obtain ⟨i0, hi0, hz0, hz1, hz2⟩ := info_parts Try.info39
  obtain ⟨ad, hXe, hXb, hXc⟩ := hr.2 hm
  subst hXe
  have hfin : ∀ v' W', (Builtin.append_ #[27, 27] o.type #[.slice A n n, .slice (some ad) m c]).run Try.prog W = .ok v' W' → W'.ownsRow W.heap.size 39 2 v' (n + m) (rowOf ecell l ++ rowOf ecell L) → W.grownBy W' none → o.wp Try.prog a W K Q := by
    intro v' W' hrun h1 h2
    obtain ⟨A3, c3, rfl, _⟩ := own_form h1
    unfold Oper.wp
    simp [execOp, ho, resolve, invoke, builtin, hs, hx, hrun, Result.andThen]
    exact h A3 c3 W' (by rw [rowOf_append]; exact h1) h2
  cases A with
  | none =>
    have hn := hA rfl
    subst hn
    have e : rowOf ecell l = [] := List.eq_nil_of_length_eq_zero (by rw [hr0.1, Nat.zero_mul])
    obtain ⟨v', w', hrun, r1, r2, _⟩ := run_append_own (P := Try.prog) W W.heap.size 27 o.type 39 i0 (.agg #[.int .i64 0, .string ⟨#[]⟩]) 2 24 Try.underlying27 hi0 hz0 hz1 hz2 rfl (by decide) (.slice none 0 0) 0 [] (World.ownsRow_nil W _ 39 2) ad m c (rowOf ecell L) hr.1 hXc (rowOf_one ecell_one L) (by unfold maxLen; omega) (by omega) (Nat.le_refl _)
    exact hfin v' w' hrun (by rw [e]; exact r1) r2
  | some b =>
    have holds : ∀ j u, (rowOf ecell l)[j]? = some u → W.cell? (b.add j) = some u := by
      intro j u hu
      rcases Nat.eq_zero_or_pos n with h0 | h0
      · have h1 := (List.getElem?_eq_some_iff.1 hu).1
        have h2 := hr0.1
        rw [h0, Nat.zero_mul] at h2
        rw [h2] at h1
        exact absurd h1 (Nat.not_lt_zero _)
      · obtain ⟨b', e, _, hc⟩ := hr0.2 h0
        have e := Option.some.inj e
        subst e
        exact hc j u hu
    obtain ⟨v', w', hrun, r1, r2⟩ := run_append_arg_grows (P := Try.prog) W 27 o.type 39 i0 (.agg #[.int .i64 0, .string ⟨#[]⟩]) 2 24 Try.underlying27 hi0 hz0 hz1 hz2 rfl (by decide) b n n (rowOf ecell l) hr0.1 holds ad m c (rowOf ecell L) hr.1 hXc (by omega) (by unfold maxLen; omega) (by omega)
    exact hfin v' w' hrun r1 r2
end Go.Proofs.Ytjodglepaeomiaa
