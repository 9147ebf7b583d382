/- Openers of parameters: entries, messages, what was saved. -/
import Derived.Deep.Slices
import Derived.Deep.Fields
import Derived.ChangeSame
import Derived.ProofKit
import Derived.OpenShut
import Derived.Test.YtjodglepaeomiaaAwk
namespace Go.Proofs.Ytjodglepaeomiaa
open Go.ChangeShapes Go.WideShapes Go.ChangeAt Go.RowKit Go.Deep

section
variable {H : Type} {enc : TypeId × Value → H} {P : Program} {w : World} {base : Nat} {spare : Nat → Bool} {held : Bool}
theorem open_slice_fields {t e : TypeId} {fs : Array Field} {fuel : Nat} {cs : List Value} {x : DataW H × List MemPlace} (ht : P.underlying t = some (.slice e)) (he : P.underlying e = some (.struct fs))
    (hone : oneCellFields P fs = true) (hC : P.cellsOf e = fs.size) (h : DataW.trod enc P w base spare held fuel t cs = some x) :
    (cs = [.slice none 0 0] ∧ x = (.nil, [])) ∨
    ∃ (a : Addr) (len cap m : Nat) (D : Nat → DataW H) (Pl : Nat → List MemPlace), cs = [.slice (some a) len cap] ∧ base ≤ a.block ∧ len ≤ cap ∧ cap ≤ maxLen ∧ m = (if spare a.block then cap else len) ∧
      x = (.slice ((List.range len).map D) ((List.range (m - len)).map fun j => D (len + j)), MemPlace.row a (m * fs.size) ++ (List.range m).flatMap Pl) ∧
      ∀ i, i < m → ∃ (ys : List (DataW H × List MemPlace)) (n : Nat), D i = .agg (ys.map (·.1)) ∧ Pl i = ys.flatMap (·.2) ∧ ys.length = fs.size ∧
        ∀ (j : Nat) (f : Field), fs[j]? = some f → ∃ (v : Value) (y : DataW H × List MemPlace), w.cell? (a.add (i * fs.size + j)) = some v ∧ ys[j]? = some y ∧ DataW.trod enc P w base spare held n f.type [v] = some y := by
  rcases open_slice ht h with h0 | ⟨a, len, cap, m, n, D, Pl, hcs, hb, hl, hm, hmm, hx, hi⟩
  · exact .inl h0
  · refine .inr ⟨a, len, cap, m, D, Pl, hcs, hb, hl, hm, hmm, by rw [hC] at hx; exact hx, fun i him => ?_⟩
    obtain ⟨cs', hc, ht'⟩ := hi i him
    rw [hC] at hc
    obtain ⟨ys, n', hn', hy, hlen, hyl, hf⟩ := DataW.trod_struct he ht'
    obtain ⟨_, hcl, hat⟩ := World.cells?_some hc
    simp only [Prod.mk.injEq] at hy
    refine ⟨ys, n', hy.1, hy.2, hyl, fun j f hj => ?_⟩
    obtain ⟨ho, hk⟩ := hone_of hone j f hj
    have hjl : j < fs.size := (Array.getElem?_eq_some_iff.1 hj).1
    have hcell := hat j hjl
    have hv : cs'[j]? = some (cs'[j]'(by omega)) := List.getElem?_eq_getElem (by omega)
    have h1 := hf j f hj
    rw [ho, hk] at h1
    have hone' : (cs'.drop j).take 1 = [cs'[j]'(by omega)] := by
      rw [List.drop_eq_getElem_cons (by omega)]
      rfl
    rw [hone'] at h1
    have hys : ys[j]? = some (ys[j]'(by omega)) := List.getElem?_eq_getElem (by omega)
    refine ⟨_, _, ?_, hys, h1.trans hys⟩
    rw [← Go.Deep.add_add, hcell, hv]
end

theorem exists_list {α : Type} {P : Nat → α → Prop} : ∀ n, (∀ r, r < n → ∃ l, P r l) → ∃ ls : List α, ls.length = n ∧ ∀ r l, ls[r]? = some l → P r l
  | 0, _ => ⟨[], rfl, fun r l h => by simp at h⟩
  | n + 1, h => by
    obtain ⟨ls, hl, hp⟩ := exists_list n (fun r hr => h r (by omega))
    obtain ⟨x, hx⟩ := h n (by omega)
    refine ⟨ls ++ [x], by simp [hl], fun r l hr => ?_⟩
    rw [List.getElem?_append] at hr
    split at hr
    · exact hp r l hr
    · have h0 : r - ls.length = 0 := by
        rcases Nat.eq_zero_or_pos (r - ls.length) with h | h
        · exact h
        · rw [List.getElem?_eq_none (by simp; omega)] at hr; cases hr
      rw [h0] at hr
      have e1 : x = l := by simpa using hr
      have e2 : r = n := by
        have : ¬ r < ls.length := by assumption
        omega
      rw [← e1, e2]; exact hx
theorem i64_bounds {x : Int} (h : (Lit.int .i64 x).wf = true) : -9223372036854775808 ≤ x ∧ x ≤ 9223372036854775807 := by
  have := bounds_i64 h
  omega
structure EntOk (x : Ent) : Prop where
  t0 : -9223372036854775808 ≤ x.term
  t1 : x.term ≤ 9223372036854775807
  d : x.data.size ≤ 9223372036854775807
/-- What is told of entries that came in. -/
structure EntsIn (w : World) (A : Option Addr) (l : List Ent) (c : Nat) : Prop where
  rd : RdE w A l
  cap : l.length ≤ c
  max : c ≤ 9223372036854775807
  nil : A = none → c = 0
  ok : ∀ x ∈ l, EntOk x
  lt : ∀ a, A = some a → l ≠ [] → a.block < w.heap.size
theorem ent_of {H : Type} {enc : TypeId × Value → H} {W : World} {base : Nat} {sp : Nat → Bool} {held : Bool} {v0 v1 : Value} {y0 y1 : DataW H × List MemPlace} {n0 n1 : Nat}
    (t0 : DataW.trod enc Try.prog W base sp held n0 2 [v0] = some y0) (t1 : DataW.trod enc Try.prog W base sp held n1 9 [v1] = some y1) :
    ∃ x : Ent, v0 = .int .i64 x.term ∧ v1 = .string x.data ∧ EntOk x := by
  obtain ⟨n0, e0, _, w0⟩ := DataW.trod_int Try.underlying2 t0
  obtain ⟨s1, e1, _, w1⟩ := DataW.trod_string Try.underlying9 t1
  have hb := i64_bounds w0
  injection e0 with e0
  injection e1 with e1
  subst e0; subst e1
  exact ⟨⟨n0, s1⟩, rfl, rfl, hb.1, hb.2, by unfold maxLen at w1; dsimp only; omega⟩
theorem open_row27 {H : Type} {enc : TypeId × Value → H} {W : World} {base2 fuel : Nat} {sp : Nat → Bool} {held : Bool} {v0 : Value} {y : DataW H × List MemPlace}
    (hf : DataW.trod enc Try.prog W base2 sp held fuel 27 [v0] = some y) :
    ∃ (A : Option Addr) (l : List Ent) (c : Nat), v0 = .slice A l.length c ∧ EntsIn W A l c := by
  rcases open_slice_fields Try.underlying27 Try.underlying39 (by kernel_rfl) (by kernel_rfl) hf with ⟨hcs, _⟩ | ⟨a, len0, cap0, m, D, Pl, hcs, _, hl, hm, hmm, _, hrow⟩
  · obtain rfl : v0 = .slice none 0 0 := by simpa using hcs
    exact ⟨none, [], 0, rfl, .inl rfl, Nat.le_refl _, by omega, fun _ => rfl, by simp, by simp⟩
  · obtain rfl : v0 = .slice (some a) len0 cap0 := by simpa using hcs
    have hlm : len0 ≤ m := by rw [hmm]; split <;> omega
    have each : ∀ r, r < len0 → ∃ s : Ent, (W.cell? (a.add (r * 2)) = some (.int .i64 s.term) ∧ W.cell? (a.add (r * 2 + 1)) = some (.string s.data)) ∧ EntOk s := fun r hr => by
      obtain ⟨ys, n, _, _, _, hfl⟩ := hrow r (by omega)
      obtain ⟨v0, y0, hc0, _, ht0⟩ := hfl 0 _ rfl
      obtain ⟨v1, y1, hc1, _, ht1⟩ := hfl 1 _ rfl
      obtain ⟨x, e0, e1, hx⟩ := ent_of ht0 ht1
      subst e0; subst e1
      exact ⟨x, ⟨hc0, hc1⟩, hx⟩
    obtain ⟨ls, hls, hp⟩ := exists_list len0 each
    refine ⟨some a, ls, cap0, by rw [hls], ?_, by omega, by unfold maxLen at hm; omega, fun e => (by cases e), fun s hs => ?_, fun a' ha' hpos => ?_⟩
    · rcases Nat.eq_zero_or_pos len0 with h0 | h0
      · left; exact List.eq_nil_of_length_eq_zero (by omega)
      · right
        obtain ⟨s, ⟨hc0, _⟩, _⟩ := each 0 h0
        obtain ⟨b, off, spot⟩ := a
        have hs : spot = none := by
          have := World.cell?_spot hc0
          simpa [Addr.add] using this
        subst hs
        refine ⟨b, off, rfl, ?_, fun k s hk j v hj => ?_⟩
        · have := World.block_lt_of_cell? W _ hc0
          simpa [addr_add] using this
        · obtain ⟨⟨h1, h2⟩, _⟩ := hp k s hk
          rw [addr_add] at h1 h2
          have hj2 := (List.getElem?_eq_some_iff.1 hj).1
          rw [ecell_len] at hj2
          rcases (show j = 0 ∨ j = 1 by omega) with rfl | rfl
          · have e : v = .int .i64 s.term := by simpa [ecell] using hj.symm
            subst e; exact h1
          · have e : v = .string s.data := by simpa [ecell] using hj.symm
            subst e; rw [← Nat.add_assoc] at h2; exact h2
    · obtain ⟨k, hk⟩ := List.getElem?_of_mem hs
      exact (hp k s hk).2
    · injection ha' with ha'
      subst ha'
      obtain ⟨s, ⟨hc0, _⟩, _⟩ := each 0 (by rw [← hls]; exact List.length_pos_iff.2 hpos)
      have := World.block_lt_of_cell? W _ hc0
      rw [block_of_add] at this
      exact this
theorem cells2 : Try.prog.cellsOf 2 = 1 := by kernel_rfl
theorem cells3 : Try.prog.cellsOf 3 = 1 := by kernel_rfl
theorem cells4 : Try.prog.cellsOf 4 = 1 := by kernel_rfl
theorem cells5 : Try.prog.cellsOf 5 = 1 := by kernel_rfl
theorem cells27 : Try.prog.cellsOf 27 = 1 := by kernel_rfl
theorem cells29 : Try.prog.cellsOf 29 = 3 := by kernel_rfl
theorem cells34 : Try.prog.cellsOf 34 = 9 := by kernel_rfl
set_option maxRecDepth 100000 in
theorem msg_trod {H : Type} {enc : TypeId × Value → H} {W : World} {base2 fuel : Nat} {sp : Nat → Bool} {held : Bool} {cl : List Value} {y : DataW H × List MemPlace}
    (hcl : cl.length = 9) (hf : DataW.trod enc Try.prog W base2 sp held fuel 34 cl = some y) :
    ∃ (m : Mg) (E : Option Addr) (c : Nat), cl = mcell E c m ∧ MgOk m ∧ EntsIn W E m.ents c := by
  obtain ⟨c0, c1, c2, c3, c4, c5, c6, c7, c8, rfl⟩ : ∃ c0 c1 c2 c3 c4 c5 c6 c7 c8, cl = [c0, c1, c2, c3, c4, c5, c6, c7, c8] := by
    match cl, hcl with
    | [c0, c1, c2, c3, c4, c5, c6, c7, c8], _ => exact ⟨c0, c1, c2, c3, c4, c5, c6, c7, c8, rfl⟩
  obtain ⟨xs, n, rfl, hx, _, hxl, hall⟩ := DataW.trod_struct Try.underlying34 hf
  obtain ⟨x0, x1, x2, x3, x4, x5, x6, x7, x8, rfl⟩ : ∃ x0 x1 x2 x3 x4 x5 x6 x7 x8, xs = [x0, x1, x2, x3, x4, x5, x6, x7, x8] := by
    match xs, hxl with
    | [x0, x1, x2, x3, x4, x5, x6, x7, x8], _ => exact ⟨x0, x1, x2, x3, x4, x5, x6, x7, x8, rfl⟩
  have g0 := hall 0 { name := "Kind", type := 5, offset := 0, embedded := false, tag := "", pkgPath := "", byteOffset := 0 } rfl
  dsimp only at g0
  rw [cells5] at g0
  replace g0 : DataW.trod enc Try.prog W base2 sp held n 5 [c0] = some x0 := g0
  have g1 := hall 1 { name := "From", type := 3, offset := 1, embedded := false, tag := "", pkgPath := "", byteOffset := 8 } rfl
  dsimp only at g1
  rw [cells3] at g1
  replace g1 : DataW.trod enc Try.prog W base2 sp held n 3 [c1] = some x1 := g1
  have g2 := hall 2 { name := "To", type := 3, offset := 2, embedded := false, tag := "", pkgPath := "", byteOffset := 16 } rfl
  dsimp only at g2
  rw [cells3] at g2
  replace g2 : DataW.trod enc Try.prog W base2 sp held n 3 [c2] = some x2 := g2
  have g3 := hall 3 { name := "Term", type := 2, offset := 3, embedded := false, tag := "", pkgPath := "", byteOffset := 24 } rfl
  dsimp only at g3
  rw [cells2] at g3
  replace g3 : DataW.trod enc Try.prog W base2 sp held n 2 [c3] = some x3 := g3
  have g4 := hall 4 { name := "Index", type := 3, offset := 4, embedded := false, tag := "", pkgPath := "", byteOffset := 32 } rfl
  dsimp only at g4
  rw [cells3] at g4
  replace g4 : DataW.trod enc Try.prog W base2 sp held n 3 [c4] = some x4 := g4
  have g5 := hall 5 { name := "LogTerm", type := 2, offset := 5, embedded := false, tag := "", pkgPath := "", byteOffset := 40 } rfl
  dsimp only at g5
  rw [cells2] at g5
  replace g5 : DataW.trod enc Try.prog W base2 sp held n 2 [c5] = some x5 := g5
  have g6 := hall 6 { name := "Entries", type := 27, offset := 6, embedded := false, tag := "", pkgPath := "", byteOffset := 48 } rfl
  dsimp only at g6
  rw [cells27] at g6
  replace g6 : DataW.trod enc Try.prog W base2 sp held n 27 [c6] = some x6 := g6
  have g7 := hall 7 { name := "Commit", type := 3, offset := 7, embedded := false, tag := "", pkgPath := "", byteOffset := 72 } rfl
  dsimp only at g7
  rw [cells3] at g7
  replace g7 : DataW.trod enc Try.prog W base2 sp held n 3 [c7] = some x7 := g7
  have g8 := hall 8 { name := "Ok", type := 4, offset := 8, embedded := false, tag := "", pkgPath := "", byteOffset := 80 } rfl
  dsimp only at g8
  rw [cells4] at g8
  replace g8 : DataW.trod enc Try.prog W base2 sp held n 4 [c8] = some x8 := g8
  obtain ⟨zz0, e0, -, w0⟩ := DataW.trod_int Try.underlying5 g0
  have b0 := bounds_u8 w0
  obtain ⟨z0, rfl⟩ : ∃ k : Nat, zz0 = (k : Int) := ⟨zz0.toNat, by omega⟩
  obtain rfl : c0 = .int .u8 (z0 : Nat) := by simpa using e0
  obtain ⟨z1, e1, -, w1⟩ := DataW.trod_int Try.underlying3 g1
  obtain rfl : c1 = .int .i64 z1 := by simpa using e1
  have b1 := i64_bounds w1
  obtain ⟨z2, e2, -, w2⟩ := DataW.trod_int Try.underlying3 g2
  obtain rfl : c2 = .int .i64 z2 := by simpa using e2
  have b2 := i64_bounds w2
  obtain ⟨z3, e3, -, w3⟩ := DataW.trod_int Try.underlying2 g3
  obtain rfl : c3 = .int .i64 z3 := by simpa using e3
  have b3 := i64_bounds w3
  obtain ⟨z4, e4, -, w4⟩ := DataW.trod_int Try.underlying3 g4
  obtain rfl : c4 = .int .i64 z4 := by simpa using e4
  have b4 := i64_bounds w4
  obtain ⟨z5, e5, -, w5⟩ := DataW.trod_int Try.underlying2 g5
  obtain rfl : c5 = .int .i64 z5 := by simpa using e5
  have b5 := i64_bounds w5
  obtain ⟨A, l, c, rfl, hin⟩ := open_row27 g6
  obtain ⟨z7, e7, -, w7⟩ := DataW.trod_int Try.underlying3 g7
  obtain rfl : c7 = .int .i64 z7 := by simpa using e7
  have b7 := i64_bounds w7
  obtain ⟨z8, e8, -⟩ := DataW.trod_bool Try.underlying4 g8
  obtain rfl : c8 = .bool z8 := by simpa using e8
  exact ⟨⟨z0, z1, z2, z3, z4, z5, l, z7, z8⟩, A, c, rfl, ⟨by dsimp only; omega, b1, b2, b3, b4, b5, b7, Nat.le_trans hin.cap hin.max⟩, hin⟩
set_option maxRecDepth 100000 in
theorem open_msg {H : Type} {enc : TypeId × Value → H} {W : World} {base base2 : Nat} {sp : Nat → Bool} {held : Bool} {v0 : Value} {d0 : DataW H} {p0 : List MemPlace}
    (hval : Value.okWide Try.prog W .any base 34 v0) (h0 : DataW.Trod enc Try.prog W base2 sp held 34 v0 d0 p0) :
    ∃ (m : Mg) (E : Option Addr) (c : Nat), v0 = .agg (mcell E c m).toArray ∧ MgOk m ∧ EntsIn W E m.ents c := by
  obtain ⟨arr, rfl, harr⟩ := okWide_struct Try.underlying34 hval
  rw [cells34] at harr
  obtain ⟨cl⟩ := arr
  obtain ⟨fuel, hf⟩ := h0
  simp only [Value.cells] at hf
  obtain ⟨m, E, c, h1, h2⟩ := msg_trod (by simpa using harr) hf
  exact ⟨m, E, c, by rw [← h1], h2⟩
set_option maxRecDepth 100000 in
theorem saved_trod {H : Type} {enc : TypeId × Value → H} {W : World} {base2 fuel : Nat} {sp : Nat → Bool} {held : Bool} {cl : List Value} {y : DataW H × List MemPlace}
    (hcl : cl.length = 3) (hf : DataW.trod enc Try.prog W base2 sp held fuel 29 cl = some y) :
    ∃ (t v : Int) (l : List Ent) (A : Option Addr) (c : Nat), cl = [.int .i64 t, .int .i64 v, .slice A l.length c] ∧ ((-9223372036854775808 ≤ t ∧ t ≤ 9223372036854775807) ∧ -9223372036854775808 ≤ v ∧ v ≤ 9223372036854775807) ∧ EntsIn W A l c := by
  obtain ⟨c0, c1, c2, rfl⟩ : ∃ c0 c1 c2, cl = [c0, c1, c2] := by
    match cl, hcl with
    | [c0, c1, c2], _ => exact ⟨c0, c1, c2, rfl⟩
  obtain ⟨xs, n, rfl, hx, _, hxl, hall⟩ := DataW.trod_struct Try.underlying29 hf
  obtain ⟨x0, x1, x2, rfl⟩ : ∃ x0 x1 x2, xs = [x0, x1, x2] := by
    match xs, hxl with
    | [x0, x1, x2], _ => exact ⟨x0, x1, x2, rfl⟩
  have g0 := hall 0 { name := "Term", type := 2, offset := 0, embedded := false, tag := "", pkgPath := "", byteOffset := 0 } rfl
  dsimp only at g0
  rw [cells2] at g0
  replace g0 : DataW.trod enc Try.prog W base2 sp held n 2 [c0] = some x0 := g0
  have g1 := hall 1 { name := "Vote", type := 3, offset := 1, embedded := false, tag := "", pkgPath := "", byteOffset := 8 } rfl
  dsimp only at g1
  rw [cells3] at g1
  replace g1 : DataW.trod enc Try.prog W base2 sp held n 3 [c1] = some x1 := g1
  have g2 := hall 2 { name := "Log", type := 27, offset := 2, embedded := false, tag := "", pkgPath := "", byteOffset := 16 } rfl
  dsimp only at g2
  rw [cells27] at g2
  replace g2 : DataW.trod enc Try.prog W base2 sp held n 27 [c2] = some x2 := g2
  obtain ⟨z0, e0, -, w0⟩ := DataW.trod_int Try.underlying2 g0
  obtain rfl : c0 = .int .i64 z0 := by simpa using e0
  have b0 := i64_bounds w0
  obtain ⟨z1, e1, -, w1⟩ := DataW.trod_int Try.underlying3 g1
  obtain rfl : c1 = .int .i64 z1 := by simpa using e1
  have b1 := i64_bounds w1
  obtain ⟨A, l, c, rfl, hin⟩ := open_row27 g2
  exact ⟨z0, z1, l, A, c, rfl, ⟨b0, b1⟩, hin⟩
set_option maxRecDepth 100000 in
theorem open_saved {H : Type} {enc : TypeId × Value → H} {W : World} {base base2 : Nat} {sp : Nat → Bool} {held : Bool} {v0 : Value} {d0 : DataW H} {p0 : List MemPlace}
    (hval : Value.okWide Try.prog W .any base 29 v0) (h0 : DataW.Trod enc Try.prog W base2 sp held 29 v0 d0 p0) :
    ∃ (t v : Int) (l : List Ent) (A : Option Addr) (c : Nat), v0 = .agg #[.int .i64 t, .int .i64 v, .slice A l.length c] ∧ ((-9223372036854775808 ≤ t ∧ t ≤ 9223372036854775807) ∧ -9223372036854775808 ≤ v ∧ v ≤ 9223372036854775807) ∧ EntsIn W A l c := by
  obtain ⟨arr, rfl, harr⟩ := okWide_struct Try.underlying29 hval
  rw [cells29] at harr
  obtain ⟨cl⟩ := arr
  obtain ⟨fuel, hf⟩ := h0
  simp only [Value.cells] at hf
  obtain ⟨t, v, l, A, c, h1, h2⟩ := saved_trod (by simpa using harr) hf
  exact ⟨t, v, l, A, c, by rw [h1], h2⟩
end Go.Proofs.Ytjodglepaeomiaa
