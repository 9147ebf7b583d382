/- Tokens that came in: any at all; how they lie in memory. -/
import Derived.Deep.Slices
import Derived.Deep.Fields
import Derived.ChangeSame
import Derived.ProofKit
import Derived.OpenShut
import Derived.Test.YtlfkiaphmifelaaDoorChecked
import Derived.Test.YtlfkiaphmifelaaDoorRwl
namespace Go.Proofs.YtlfkiaphmifelaaDoor
open Go.ChangeShapes Go.WideShapes Go.ChangeAt Go.RowKit Go.Deep

structure Tz where
  kind : Nat
  text : ByteArray
  int : Int
  at_ : Int
def zcell (x : Tz) : List Value := [.int .u8 (x.kind : Nat), .string x.text, .int .i64 x.int, .int .i64 x.at_]
theorem zcell_len (x : Tz) : (zcell x).length = 4 := rfl
theorem zcell_one (x : Tz) : ∀ u ∈ zcell x, u.oneCell' = true := by
  intro u hu
  simp only [zcell, List.mem_cons, List.not_mem_nil, or_false] at hu
  rcases hu with rfl | rfl | rfl | rfl <;> rfl
structure TzOk (x : Tz) : Prop where
  k : x.kind < 256
  t : x.text.size ≤ 9223372036854775807
  i : -9223372036854775808 ≤ x.int ∧ x.int ≤ 9223372036854775807
theorem zcells33 : Tryd.prog.cellsOf 33 = 4 := by kernel_rfl
theorem zcells9 : Tryd.prog.cellsOf 9 = 1 := by kernel_rfl
theorem zcells5 : Tryd.prog.cellsOf 5 = 1 := by kernel_rfl
theorem zcells3 : Tryd.prog.cellsOf 3 = 1 := by kernel_rfl
theorem zcells2 : Tryd.prog.cellsOf 2 = 1 := by kernel_rfl
set_option maxRecDepth 100000 in
theorem tok_trod {H : Type} {enc : TypeId × Value → H} {W : World} {base2 fuel : Nat} {sp : Nat → Bool} {held : Bool} {cl : List Value} {y : DataW H × List MemPlace}
    (hcl : cl.length = 4) (hf : DataW.trod enc Tryd.prog W base2 sp held fuel 33 cl = some y) : ∃ x : Tz, cl = zcell x ∧ TzOk x := by
  obtain ⟨c0, c1, c2, c3, rfl⟩ : ∃ c0 c1 c2 c3, cl = [c0, c1, c2, c3] := by
    match cl, hcl with
    | [c0, c1, c2, c3], _ => exact ⟨c0, c1, c2, c3, rfl⟩
  obtain ⟨xs, n, rfl, hx, _, hxl, hall⟩ := DataW.trod_struct Tryd.underlying33 hf
  obtain ⟨x0, x1, x2, x3, rfl⟩ : ∃ x0 x1 x2 x3, xs = [x0, x1, x2, x3] := by
    match xs, hxl with
    | [x0, x1, x2, x3], _ => exact ⟨x0, x1, x2, x3, rfl⟩
  have g0 := hall 0 { name := "Kind", type := 5, offset := 0, embedded := false, tag := "", pkgPath := "", byteOffset := 0 } rfl
  dsimp only at g0
  rw [zcells5] at g0
  replace g0 : DataW.trod enc Tryd.prog W base2 sp held n 5 [c0] = some x0 := g0
  have g1 := hall 1 { name := "Text", type := 9, offset := 1, embedded := false, tag := "", pkgPath := "", byteOffset := 8 } rfl
  dsimp only at g1
  rw [zcells9] at g1
  replace g1 : DataW.trod enc Tryd.prog W base2 sp held n 9 [c1] = some x1 := g1
  have g2 := hall 2 { name := "Int", type := 2, offset := 2, embedded := false, tag := "", pkgPath := "", byteOffset := 24 } rfl
  dsimp only at g2
  rw [zcells2] at g2
  replace g2 : DataW.trod enc Tryd.prog W base2 sp held n 2 [c2] = some x2 := g2
  have g3 := hall 3 { name := "At", type := 3, offset := 3, embedded := false, tag := "", pkgPath := "", byteOffset := 32 } rfl
  dsimp only at g3
  rw [zcells3] at g3
  replace g3 : DataW.trod enc Tryd.prog W base2 sp held n 3 [c3] = some x3 := g3
  obtain ⟨zz0, e0, -, w0⟩ := DataW.trod_int Tryd.underlying5 g0
  have b0 := bounds_u8 w0
  obtain ⟨z0, rfl⟩ : ∃ k : Nat, zz0 = (k : Int) := ⟨zz0.toNat, by omega⟩
  obtain rfl : c0 = .int .u8 (z0 : Nat) := by simpa using e0
  obtain ⟨s1, e1, -, w1⟩ := DataW.trod_string Tryd.underlying9 g1
  obtain rfl : c1 = .string s1 := by simpa using e1
  obtain ⟨z2, e2, -, w2⟩ := DataW.trod_int Tryd.underlying2 g2
  obtain rfl : c2 = .int .i64 z2 := by simpa using e2
  obtain ⟨z3, e3, -, -⟩ := DataW.trod_int Tryd.underlying3 g3
  obtain rfl : c3 = .int .i64 z3 := by simpa using e3
  exact ⟨⟨z0, s1, z2, z3⟩, rfl, by dsimp only; omega, by unfold maxLen at w1; dsimp only; omega, by have := bounds_i64 w2; dsimp only; omega⟩
abbrev RdZ := RdL zcell 4
theorem exists_list {α : Type} {P : Nat → α → Prop} : ∀ n, (∀ r, r < n → ∃ l, P r l) → ∃ ls : List α, ls.length = n ∧ ∀ r l, ls[r]? = some l → P r l
  | 0, _ => ⟨[], rfl, fun r l h => by simp at h⟩
  | n + 1, h => by
    obtain ⟨ls, hl, hp⟩ := exists_list n (fun r hr => h r (by omega))
    obtain ⟨x, hx⟩ := h n (by omega)
    refine ⟨ls ++ [x], by simp [hl], fun r l hr => ?_⟩
    rw [List.getElem?_append] at hr
    split at hr
    · exact hp r l hr
    · have h0 : r - ls.length = 0 := by
        rcases Nat.eq_zero_or_pos (r - ls.length) with h | h
        · exact h
        · rw [List.getElem?_eq_none (by simp; omega)] at hr; cases hr
      rw [h0] at hr
      have e1 : x = l := by simpa using hr
      have e2 : r = n := by
        have : ¬ r < ls.length := by assumption
        omega
      rw [← e1, e2]; exact hx
set_option maxRecDepth 100000 in
theorem open_toks {H : Type} {enc : TypeId × Value → H} {W : World} {base base2 : Nat} {sp : Nat → Bool} {held : Bool} {v0 : Value} {d0 : DataW H} {p0 : List MemPlace}
    (hval : Value.okWide Tryd.prog W .any base 22 v0) (h0 : DataW.Trod enc Tryd.prog W base2 sp held 22 v0 d0 p0) :
    ∃ (A : Option Addr) (l : List Tz) (c : Nat), v0 = .slice A l.length c ∧ RdZ W A l ∧ l.length ≤ 9223372036854775807 ∧ ∀ x ∈ l, TzOk x := by
  obtain ⟨a0, len0, cap0, rfl⟩ := okWide_slice Tryd.underlying22 hval
  obtain ⟨fuel, hf⟩ := h0
  rcases open_slice Tryd.underlying22 hf with ⟨hcs, _⟩ | ⟨a, len, cap, m, n, D, Pl, hcs, _, hl, hm, hmm, _, hrow⟩
  · simp [Value.cells] at hcs
    obtain ⟨rfl, rfl, rfl⟩ := hcs
    exact ⟨none, [], 0, rfl, .inl rfl, by simp, by simp⟩
  · simp [Value.cells] at hcs
    obtain ⟨rfl, rfl, rfl⟩ := hcs
    have hlm : len0 ≤ m := by rw [hmm]; split <;> omega
    have each : ∀ r, r < len0 → ∃ x : Tz, (∀ j v, (zcell x)[j]? = some v → W.cell? (a.add (r * 4 + j)) = some v) ∧ TzOk x := fun r hr => by
      obtain ⟨cs', hc, ht⟩ := hrow r (by omega)
      rw [zcells33] at hc
      obtain ⟨_, hcl, hat⟩ := World.cells?_some hc
      obtain ⟨x, rfl, hx⟩ := tok_trod (by omega) ht
      refine ⟨x, fun j v hj => ?_, hx⟩
      have hj2 := (List.getElem?_eq_some_iff.1 hj).1
      rw [zcell_len] at hj2
      rw [← Go.Deep.add_add, hat j hj2, hj]
    obtain ⟨ps, hps, hp⟩ := exists_list len0 each
    refine ⟨some a, ps, cap0, by rw [hps], ?_, by rw [hps]; unfold maxLen at hm; omega, fun x hx => ?_⟩
    · rcases Nat.eq_zero_or_pos len0 with h0 | h0
      · left; exact List.eq_nil_of_length_eq_zero (by omega)
      · right
        obtain ⟨p, hc0, _⟩ := each 0 h0
        obtain ⟨b, off, spot⟩ := a
        have hc1 := hc0 0 _ rfl
        have hs : spot = none := by
          have := World.cell?_spot hc1
          simpa [Addr.add] using this
        subst hs
        refine ⟨b, off, rfl, ?_, fun i x hx j v hj => ?_⟩
        · have := World.block_lt_of_cell? W _ hc1
          simpa [addr_add] using this
        · have h1 := (hp i x hx).1 j v hj
          rw [addr_add, ← Nat.add_assoc] at h1
          exact h1
    · obtain ⟨k, hk⟩ := List.getElem?_of_mem hx
      exact (hp k x hk).2
/-- A token of a list. -/
theorem toks_at {w : World} {A : Option Addr} {l : List Tz} (h : RdZ w A l) {k : Nat} {x : Tz} (hx : l[k]? = some x) :
    ∃ b off, A = some ⟨b, off, none⟩ ∧ b < w.heap.size ∧ ∀ j v, (zcell x)[j]? = some v → w.cell? ⟨b, off + k * 4 + j, none⟩ = some v := by
  rcases h with h | ⟨b, off, hA, hb, hat⟩
  · rw [h] at hx; simp at hx
  · exact ⟨b, off, hA, hb, fun j v hj => hat k x hx j v hj⟩

end Go.Proofs.YtlfkiaphmifelaaDoor
