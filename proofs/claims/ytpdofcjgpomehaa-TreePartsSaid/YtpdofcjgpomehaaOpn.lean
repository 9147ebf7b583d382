/- Opener of a parameter that is a tree's twigs. -/
import Derived.Deep.Slices
import Derived.Deep.Fields
import Derived.ChangeSame
import Derived.ProofKit
import Derived.OpenShut
import Derived.Test.YtpdofcjgpomehaaMak
namespace Go.Proofs.Ytpdofcjgpomehaa
open Go.ChangeShapes Go.WideShapes Go.ChangeAt Go.RowKit Go.Deep

section
variable {H : Type} {enc : TypeId × Value → H} {P : Program} {w : World} {base : Nat} {spare : Nat → Bool} {held : Bool}
theorem open_slice_fields {t e : TypeId} {fs : Array Field} {fuel : Nat} {cs : List Value} {x : DataW H × List MemPlace} (ht : P.underlying t = some (.slice e)) (he : P.underlying e = some (.struct fs))
    (hone : oneCellFields P fs = true) (hC : P.cellsOf e = fs.size) (h : DataW.trod enc P w base spare held fuel t cs = some x) :
    (cs = [.slice none 0 0] ∧ x = (.nil, [])) ∨
    ∃ (a : Addr) (len cap m : Nat) (D : Nat → DataW H) (Pl : Nat → List MemPlace), cs = [.slice (some a) len cap] ∧ base ≤ a.block ∧ len ≤ cap ∧ cap ≤ maxLen ∧ m = (if spare a.block then cap else len) ∧
      x = (.slice ((List.range len).map D) ((List.range (m - len)).map fun j => D (len + j)), MemPlace.row a (m * fs.size) ++ (List.range m).flatMap Pl) ∧
      ∀ i, i < m → ∃ (ys : List (DataW H × List MemPlace)) (n : Nat), D i = .agg (ys.map (·.1)) ∧ Pl i = ys.flatMap (·.2) ∧ ys.length = fs.size ∧
        ∀ (j : Nat) (f : Field), fs[j]? = some f → ∃ (v : Value) (y : DataW H × List MemPlace), w.cell? (a.add (i * fs.size + j)) = some v ∧ ys[j]? = some y ∧ DataW.trod enc P w base spare held n f.type [v] = some y := by
  rcases open_slice ht h with h0 | ⟨a, len, cap, m, n, D, Pl, hcs, hb, hl, hm, hmm, hx, hi⟩
  · exact .inl h0
  · refine .inr ⟨a, len, cap, m, D, Pl, hcs, hb, hl, hm, hmm, by rw [hC] at hx; exact hx, fun i him => ?_⟩
    obtain ⟨cs', hc, ht'⟩ := hi i him
    rw [hC] at hc
    obtain ⟨ys, n', hn', hy, hlen, hyl, hf⟩ := DataW.trod_struct he ht'
    obtain ⟨_, hcl, hat⟩ := World.cells?_some hc
    simp only [Prod.mk.injEq] at hy
    refine ⟨ys, n', hy.1, hy.2, hyl, fun j f hj => ?_⟩
    obtain ⟨ho, hk⟩ := hone_of hone j f hj
    have hjl : j < fs.size := (Array.getElem?_eq_some_iff.1 hj).1
    have hcell := hat j hjl
    have hv : cs'[j]? = some (cs'[j]'(by omega)) := List.getElem?_eq_getElem (by omega)
    have h1 := hf j f hj
    rw [ho, hk] at h1
    have hone' : (cs'.drop j).take 1 = [cs'[j]'(by omega)] := by
      rw [List.drop_eq_getElem_cons (by omega)]
      rfl
    rw [hone'] at h1
    have hys : ys[j]? = some (ys[j]'(by omega)) := List.getElem?_eq_getElem (by omega)
    refine ⟨_, _, ?_, hys, h1.trans hys⟩
    rw [← Go.Deep.add_add, hcell, hv]
end

theorem exists_list {α : Type} {P : Nat → α → Prop} : ∀ n, (∀ r, r < n → ∃ l, P r l) → ∃ ls : List α, ls.length = n ∧ ∀ r l, ls[r]? = some l → P r l
  | 0, _ => ⟨[], rfl, fun r l h => by simp at h⟩
  | n + 1, h => by
    obtain ⟨ls, hl, hp⟩ := exists_list n (fun r hr => h r (by omega))
    obtain ⟨x, hx⟩ := h n (by omega)
    refine ⟨ls ++ [x], by simp [hl], fun r l hr => ?_⟩
    rw [List.getElem?_append] at hr
    split at hr
    · exact hp r l hr
    · have h0 : r - ls.length = 0 := by
        rcases Nat.eq_zero_or_pos (r - ls.length) with h | h
        · exact h
        · rw [List.getElem?_eq_none (by simp; omega)] at hr; cases hr
      rw [h0] at hr
      have e1 : x = l := by simpa using hr
      have e2 : r = n := by
        have : ¬ r < ls.length := by assumption
        omega
      rw [← e1, e2]; exact hx
theorem tw_of {H : Type} {enc : TypeId × Value → H} {W : World} {base : Nat} {sp : Nat → Bool} {held : Bool} {v0 v1 v2 v3 : Value} {y0 y1 y2 y3 : DataW H × List MemPlace} {n0 n1 n2 n3 : Nat}
    (t0 : DataW.trod enc Try.prog W base sp held n0 5 [v0] = some y0) (t1 : DataW.trod enc Try.prog W base sp held n1 3 [v1] = some y1) (t2 : DataW.trod enc Try.prog W base sp held n2 2 [v2] = some y2) (t3 : DataW.trod enc Try.prog W base sp held n3 9 [v3] = some y3) :
    ∃ x : Tw, v0 = .int .u8 (x.op : Nat) ∧ v1 = .int .i64 x.kids ∧ v2 = .int .i64 x.int ∧ v3 = .string x.text ∧ TwOk x := by
  obtain ⟨n0, e0, _, w0⟩ := DataW.trod_int Try.underlying5 t0
  obtain ⟨n1, e1, _, w1⟩ := DataW.trod_int Try.underlying3 t1
  obtain ⟨n2, e2, _, w2⟩ := DataW.trod_int Try.underlying2 t2
  obtain ⟨s3, e3, _, w3⟩ := DataW.trod_string Try.underlying9 t3
  have hb := bounds_u8 w0
  have hb1 := bounds_i64 w1
  have hb2 := bounds_i64 w2
  obtain ⟨k0, rfl⟩ : ∃ k : Nat, n0 = (k : Int) := ⟨n0.toNat, by omega⟩
  injection e0 with e0
  injection e1 with e1
  injection e2 with e2
  injection e3 with e3
  subst e0; subst e1; subst e2; subst e3
  exact ⟨⟨k0, n1, n2, s3⟩, rfl, rfl, rfl, rfl, by dsimp only; omega, by dsimp only; omega, by dsimp only; omega, by dsimp only; omega, by dsimp only; omega, w3⟩
theorem open_twigs {H : Type} {enc : TypeId × Value → H} {W : World} {base base2 : Nat} {sp : Nat → Bool} {held : Bool} {v0 : Value} {d0 : DataW H} {p0 : List MemPlace}
    (hval : Value.okWide Try.prog W .any base 25 v0) (h0 : DataW.Trod enc Try.prog W base2 sp held 25 v0 d0 p0) :
    ∃ (A : Option Addr) (l : List Tw) (c : Nat), v0 = .slice A l.length c ∧ RdW W A l ∧ (l.length ≤ c ∧ c ≤ 9223372036854775807) ∧ (∀ x ∈ l, TwOk x) ∧ (∀ a, A = some a → l ≠ [] → a.block < W.heap.size) := by
  obtain ⟨a0, len0, cap0, rfl⟩ := okWide_slice Try.underlying25 hval
  obtain ⟨fuel, hf⟩ := h0
  rcases open_slice_fields Try.underlying25 Try.underlying33 (by kernel_rfl) (by kernel_rfl) hf with ⟨hcs, _⟩ | ⟨a, len, cap, m, D, Pl, hcs, _, hl, hm, hmm, _, hrow⟩
  · simp [Value.cells] at hcs
    obtain ⟨rfl, rfl, rfl⟩ := hcs
    exact ⟨none, [], 0, rfl, .inl rfl, by simp, by simp, by simp⟩
  · simp [Value.cells] at hcs
    obtain ⟨rfl, rfl, rfl⟩ := hcs
    have hlm : len0 ≤ m := by rw [hmm]; split <;> omega
    have each : ∀ r, r < len0 → ∃ s : Tw, (W.cell? (a.add (r * 4)) = some (.int .u8 (s.op : Nat)) ∧ W.cell? (a.add (r * 4 + 1)) = some (.int .i64 s.kids) ∧ W.cell? (a.add (r * 4 + 2)) = some (.int .i64 s.int) ∧ W.cell? (a.add (r * 4 + 3)) = some (.string s.text)) ∧ TwOk s := fun r hr => by
      obtain ⟨ys, n, _, _, _, hfl⟩ := hrow r (by omega)
      obtain ⟨v0, y0, hc0, _, ht0⟩ := hfl 0 _ rfl
      obtain ⟨v1, y1, hc1, _, ht1⟩ := hfl 1 _ rfl
      obtain ⟨v2, y2, hc2, _, ht2⟩ := hfl 2 _ rfl
      obtain ⟨v3, y3, hc3, _, ht3⟩ := hfl 3 _ rfl
      obtain ⟨x, e0, e1, e2, e3, hx⟩ := tw_of ht0 ht1 ht2 ht3
      subst e0; subst e1; subst e2; subst e3
      exact ⟨x, ⟨hc0, hc1, hc2, hc3⟩, hx⟩
    obtain ⟨ls, hls, hp⟩ := exists_list len0 each
    refine ⟨some a, ls, cap0, by rw [hls], ?_, by rw [hls]; unfold maxLen at hm; omega, fun s hs => ?_, fun a' ha' hpos => ?_⟩
    · rcases Nat.eq_zero_or_pos len0 with h0 | h0
      · left; exact List.eq_nil_of_length_eq_zero (by omega)
      · right
        obtain ⟨s, ⟨hc0, _, _⟩, _⟩ := each 0 h0
        obtain ⟨b, off, spot⟩ := a
        have hs : spot = none := by
          have := World.cell?_spot hc0
          simpa [Addr.add] using this
        subst hs
        refine ⟨b, off, rfl, ?_, fun k s hk => ?_⟩
        · have := World.block_lt_of_cell? W _ hc0
          simpa [addr_add] using this
        · obtain ⟨⟨h1, h2, h3, h4⟩, _⟩ := hp k s hk
          rw [addr_add] at h1 h2 h3 h4
          exact ⟨h1, h2, h3, h4⟩
    · obtain ⟨k, hk⟩ := List.getElem?_of_mem hs
      exact (hp k s hk).2
    · injection ha' with ha'
      subst ha'
      obtain ⟨s, ⟨hc0, _, _⟩, _⟩ := each 0 (by rw [← hls]; exact List.length_pos_iff.2 hpos)
      have := World.block_lt_of_cell? W _ hc0
      rw [block_of_add] at this
      exact this
end Go.Proofs.Ytpdofcjgpomehaa
