/- Deeds that came in; contract of long. -/
import Derived.Test.YtjodglepaeomiaaNlk
namespace Go.Proofs.Ytjodglepaeomiaa
open Go.ChangeShapes Go.WideShapes Go.ChangeAt Go.RowKit Go.Deep

structure Dd where
  do_ : Nat
  who : Int
  at_ : Int
  data : ByteArray
def dcell (x : Dd) : List Value := [.int .u8 (x.do_ : Nat), .int .i64 x.who, .int .i64 x.at_, .string x.data]
theorem dcell_len (x : Dd) : (dcell x).length = 4 := rfl
structure DdOk (x : Dd) : Prop where
  d : x.do_ < 256
  t : x.data.size ≤ 9223372036854775807
theorem ncells89 : Try.prog.cellsOf 89 = 4 := by kernel_rfl
theorem ncells9 : Try.prog.cellsOf 9 = 1 := by kernel_rfl
theorem ncells3 : Try.prog.cellsOf 3 = 1 := by kernel_rfl
set_option maxRecDepth 100000 in
theorem deed_trod {H : Type} {enc : TypeId × Value → H} {W : World} {base2 fuel : Nat} {sp : Nat → Bool} {held : Bool} {cl : List Value} {y : DataW H × List MemPlace}
    (hcl : cl.length = 4) (hf : DataW.trod enc Try.prog W base2 sp held fuel 89 cl = some y) : ∃ x : Dd, cl = dcell x ∧ DdOk x := by
  obtain ⟨c0, c1, c2, c3, rfl⟩ : ∃ c0 c1 c2 c3, cl = [c0, c1, c2, c3] := by
    match cl, hcl with
    | [c0, c1, c2, c3], _ => exact ⟨c0, c1, c2, c3, rfl⟩
  obtain ⟨xs, n, rfl, hx, _, hxl, hall⟩ := DataW.trod_struct Try.underlying89 hf
  obtain ⟨x0, x1, x2, x3, rfl⟩ : ∃ x0 x1 x2 x3, xs = [x0, x1, x2, x3] := by
    match xs, hxl with
    | [x0, x1, x2, x3], _ => exact ⟨x0, x1, x2, x3, rfl⟩
  have g0 := hall 0 { name := "Do", type := 5, offset := 0, embedded := false, tag := "", pkgPath := "", byteOffset := 0 } rfl
  dsimp only at g0
  rw [cells5] at g0
  replace g0 : DataW.trod enc Try.prog W base2 sp held n 5 [c0] = some x0 := g0
  have g1 := hall 1 { name := "Who", type := 3, offset := 1, embedded := false, tag := "", pkgPath := "", byteOffset := 8 } rfl
  dsimp only at g1
  rw [ncells3] at g1
  replace g1 : DataW.trod enc Try.prog W base2 sp held n 3 [c1] = some x1 := g1
  have g2 := hall 2 { name := "At", type := 3, offset := 2, embedded := false, tag := "", pkgPath := "", byteOffset := 16 } rfl
  dsimp only at g2
  rw [ncells3] at g2
  replace g2 : DataW.trod enc Try.prog W base2 sp held n 3 [c2] = some x2 := g2
  have g3 := hall 3 { name := "Data", type := 9, offset := 3, embedded := false, tag := "", pkgPath := "", byteOffset := 24 } rfl
  dsimp only at g3
  rw [ncells9] at g3
  replace g3 : DataW.trod enc Try.prog W base2 sp held n 9 [c3] = some x3 := g3
  obtain ⟨zz0, e0, -, w0⟩ := DataW.trod_int Try.underlying5 g0
  have b0 := bounds_u8 w0
  obtain ⟨z0, rfl⟩ : ∃ k : Nat, zz0 = (k : Int) := ⟨zz0.toNat, by omega⟩
  obtain rfl : c0 = .int .u8 (z0 : Nat) := by simpa using e0
  obtain ⟨z1, e1, -, -⟩ := DataW.trod_int Try.underlying3 g1
  obtain rfl : c1 = .int .i64 z1 := by simpa using e1
  obtain ⟨z2, e2, -, -⟩ := DataW.trod_int Try.underlying3 g2
  obtain rfl : c2 = .int .i64 z2 := by simpa using e2
  obtain ⟨s2, e3, -, w2⟩ := DataW.trod_string Try.underlying9 g3
  obtain rfl : c3 = .string s2 := by simpa using e3
  exact ⟨⟨z0, z1, z2, s2⟩, rfl, by dsimp only; omega, by unfold maxLen at w2; dsimp only; omega⟩
abbrev RdD := RdL dcell 4
set_option maxRecDepth 100000 in
theorem open_deeds {H : Type} {enc : TypeId × Value → H} {W : World} {base base2 : Nat} {sp : Nat → Bool} {held : Bool} {v0 : Value} {d0 : DataW H} {p0 : List MemPlace}
    (hval : Value.okWide Try.prog W .any base 42 v0) (h0 : DataW.Trod enc Try.prog W base2 sp held 42 v0 d0 p0) :
    ∃ (A : Option Addr) (l : List Dd) (c : Nat), v0 = .slice A l.length c ∧ RdD W A l ∧ l.length ≤ 9223372036854775807 ∧ ∀ x ∈ l, DdOk x := by
  obtain ⟨a0, len0, cap0, rfl⟩ := okWide_slice Try.underlying42 hval
  obtain ⟨fuel, hf⟩ := h0
  rcases open_slice Try.underlying42 hf with ⟨hcs, _⟩ | ⟨a, len, cap, m, n, D, Pl, hcs, _, hl, hm, hmm, _, hrow⟩
  · simp [Value.cells] at hcs
    obtain ⟨rfl, rfl, rfl⟩ := hcs
    exact ⟨none, [], 0, rfl, .inl rfl, by simp, by simp⟩
  · simp [Value.cells] at hcs
    obtain ⟨rfl, rfl, rfl⟩ := hcs
    have hlm : len0 ≤ m := by rw [hmm]; split <;> omega
    have each : ∀ r, r < len0 → ∃ x : Dd, (∀ j v, (dcell x)[j]? = some v → W.cell? (a.add (r * 4 + j)) = some v) ∧ DdOk x := fun r hr => by
      obtain ⟨cs', hc, ht⟩ := hrow r (by omega)
      rw [ncells89] at hc
      obtain ⟨_, hcl, hat⟩ := World.cells?_some hc
      obtain ⟨x, rfl, hx⟩ := deed_trod (by omega) ht
      refine ⟨x, fun j v hj => ?_, hx⟩
      have hj2 := (List.getElem?_eq_some_iff.1 hj).1
      rw [dcell_len] at hj2
      rw [← Go.Deep.add_add, hat j hj2, hj]
    obtain ⟨ps, hps, hp⟩ := exists_list len0 each
    refine ⟨some a, ps, cap0, by rw [hps], ?_, by rw [hps]; unfold maxLen at hm; omega, fun x hx => ?_⟩
    · rcases Nat.eq_zero_or_pos len0 with h0 | h0
      · left; exact List.eq_nil_of_length_eq_zero (by omega)
      · right
        obtain ⟨p, hc0, _⟩ := each 0 h0
        obtain ⟨b, off, spot⟩ := a
        have hc1 := hc0 0 _ rfl
        have hs : spot = none := by
          have := World.cell?_spot hc1
          simpa [Addr.add] using this
        subst hs
        refine ⟨b, off, rfl, ?_, fun i x hx j v hj => ?_⟩
        · have := World.block_lt_of_cell? W _ hc1
          simpa [addr_add] using this
        · have h1 := (hp i x hx).1 j v hj
          rw [addr_add, ← Nat.add_assoc] at h1
          exact h1
    · obtain ⟨k, hk⟩ := List.getElem?_of_mem hx
      exact (hp k x hk).2
/-- A deed of a list. -/
theorem deeds_at {w : World} {A : Option Addr} {l : List Dd} (h : RdD w A l) {k : Nat} {x : Dd} (hx : l[k]? = some x) :
    ∃ b off, A = some ⟨b, off, none⟩ ∧ b < w.heap.size ∧ ∀ j v, (dcell x)[j]? = some v → w.cell? ⟨b, off + k * 4 + j, none⟩ = some v := by
  rcases h with h | ⟨b, off, hA, hb, hat⟩
  · rw [h] at hx; simp at hx
  · exact ⟨b, off, hA, hb, fun j v hj => hat k x hx j v hj⟩

/-! Rows that are written over. -/

def longB (l : List Dd) : Bool := (l.take 150).any (fun x => decide (50 < x.data.size)) || decide (150 < l.length)
theorem nany_take_succ {α : Type} {l : List α} {f : α → Bool} {k : Nat} {x : α} (hx : l[k]? = some x) : (l.take (k + 1)).any f = ((l.take k).any f || f x) := by
  have hk := (List.getElem?_eq_some_iff.1 hx).1
  have he : l[k] = x := (List.getElem?_eq_some_iff.1 hx).2
  rw [List.take_succ_eq_append_getElem hk, List.any_append, he]
  simp
theorem nany_take_of {α : Type} {l : List α} {f : α → Bool} {k m : Nat} {x : α} (hx : l[k]? = some x) (hkm : k < m) (hf : f x = true) : (l.take m).any f = true := by
  rw [List.any_eq_true]
  refine ⟨x, List.mem_of_getElem? (i := k) ?_, hf⟩
  rw [List.getElem?_take, if_pos hkm]
  exact hx
set_option maxRecDepth 100000 in
set_option maxHeartbeats 4000000 in
theorem long_any (A : Option Addr) (c : Nat) (l : List Dd) (w : World) (hrd : RdD w A l) (hlen : l.length ≤ 9223372036854775807) (hok : ∀ x ∈ l, DdOk x) :
    Calls Try.prog 17 #[.slice A l.length c] w fun e w' => e = .returned (.bool (longB l)) ∧ w' = w := by
  obtain ⟨R, hR⟩ : ∃ R, R = longB l := ⟨_, rfl⟩
  obtain ⟨n, hn⟩ : ∃ n, n = l.length := ⟨_, rfl⟩
  have HH := Lib.hid (And.intro hrd (And.intro hn (And.intro hR hok)))
  rw [← hR]
  rw [← hn] at hlen ⊢
  clear hrd hn hR hok
  go_enter Try.func17, Try.ntmps17
  go_wp2_with fail
  go_loopw [3] (fun s3 wr => ∃ k : Nat, s3 = .int .i64 (k : Nat) ∧ k ≤ n ∧ k ≤ 150 ∧ (l.take k).any (fun x => decide (50 < x.data.size)) = false ∧ wr = w) (fun s3 _ => n - (intOf s3).toNat)
  case atStart => exact ⟨0, rfl, by omega, by omega, rfl, rfl⟩
  case round =>
    obtain ⟨k, rfl, hk, hk60, hany, rfl⟩ := hrel
    have HB := Lib.hid hany
    clear hany
    by_cases hlt : k < n
    · have d0 : decide ((k : Int) < (n : Int)) = true := decide_eq_true (by omega)
      by_cases h60 : k < 150
      · have d1 : decide ((k : Int) < 150) = true := decide_eq_true (by omega)
        have hkn : (k : Int) < (n : Int) := by omega
        have hk0 : (0 : Int) ≤ (k : Int) := by omega
        obtain ⟨x, hx⟩ : ∃ x, l[k]? = some x := ⟨_, List.getElem?_eq_getElem (by rw [← HH.out.2.1]; exact hlt)⟩
        obtain ⟨b, off, hA, hbl, hat⟩ := deeds_at HH.out.1 hx
        subst hA
        have x3 := hat 3 _ rfl
        have HX := Lib.hid hx
        have hds := (HH.out.2.2.2 x (List.mem_of_getElem? hx)).t
        clear hat hx
        obtain ⟨dd, who, at_, data⟩ := x
        dsimp only at x3 hds
        by_cases hdl : 50 < data.size
        · have d2 : decide ((data.size : Int) > 50) = true := decide_eq_true (by omega)
          have HRT : Hid (R = true) := by rw [HH.out.2.2.1]; unfold longB; rw [nany_take_of HX.out h60 (decide_eq_true hdl)]; exact Lib.hid rfl
          go_wp2_with fail
          go_ret
          exact ⟨ret_bool HRT.out.symm, rfl⟩
        · have d2 : decide ((data.size : Int) > 50) = false := decide_eq_false (by omega)
          go_wp2_with fail
          go_roundw
          case rel => exact ⟨k + 1, by go_num, by omega, by omega, by rw [nany_take_succ HX.out, HB.out]; simpa using hdl, by trivial⟩
          case measure => simp [intOf]; omega
      · have d1 : decide ((k : Int) < 150) = false := decide_eq_false (by omega)
        have hk5 : k = 150 := by omega
        have HRT : Hid (R = decide ((n : Int) > 150)) := by rw [HH.out.2.2.1]; unfold longB; rw [← hk5, HB.out, ← HH.out.2.1]; exact Lib.hid (by simp; omega)
        go_wp2_with fail
        go_ret
        exact ⟨ret_bool (by rw [HRT.out]; simp; omega), rfl⟩
    · have d0 : decide ((k : Int) < (n : Int)) = false := decide_eq_false (by omega)
      have HRT : Hid (R = decide ((n : Int) > 150)) := by
        have h1 : l.take k = l.take 150 := by rw [List.take_of_length_le (by rw [← HH.out.2.1]; omega), List.take_of_length_le (by rw [← HH.out.2.1]; omega)]
        rw [HH.out.2.2.1]; unfold longB; rw [← h1, HB.out, ← HH.out.2.1]; exact Lib.hid (by simp; omega)
      go_wp2_with fail
      go_ret
      exact ⟨ret_bool HRT.out.symm, rfl⟩
end Go.Proofs.Ytjodglepaeomiaa
