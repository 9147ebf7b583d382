/- Acts that came in; rows that are written over; contracts of heavy and spoil. -/
import Derived.Test.YtjodglepaeomiaaRha
namespace Go.Proofs.Ytjodglepaeomiaa
open Go.ChangeShapes Go.WideShapes Go.ChangeAt Go.RowKit Go.Deep

structure Ac where
  do_ : Nat
  m : Mg
  E : Option Addr
  c : Nat
  data : ByteArray
def acell (x : Ac) : List Value := .int .u8 (x.do_ : Nat) :: (mcell x.E x.c x.m ++ [.string x.data])
theorem acell_len (x : Ac) : (acell x).length = 11 := rfl
structure AcOk (W : World) (x : Ac) : Prop where
  d : x.do_ < 256
  m : MgOk x.m
  e : EntsIn W x.E x.m.ents x.c
  t : x.data.size ≤ 9223372036854775807
theorem cells67 : Try.prog.cellsOf 67 = 11 := by kernel_rfl
theorem cells9 : Try.prog.cellsOf 9 = 1 := by kernel_rfl
set_option maxRecDepth 100000 in
theorem act_trod {H : Type} {enc : TypeId × Value → H} {W : World} {base2 fuel : Nat} {sp : Nat → Bool} {held : Bool} {cl : List Value} {y : DataW H × List MemPlace}
    (hcl : cl.length = 11) (hf : DataW.trod enc Try.prog W base2 sp held fuel 67 cl = some y) : ∃ x : Ac, cl = acell x ∧ AcOk W x := by
  obtain ⟨c0, c1, c2, c3, c4, c5, c6, c7, c8, c9, c10, rfl⟩ : ∃ c0 c1 c2 c3 c4 c5 c6 c7 c8 c9 c10, cl = [c0, c1, c2, c3, c4, c5, c6, c7, c8, c9, c10] := by
    match cl, hcl with
    | [c0, c1, c2, c3, c4, c5, c6, c7, c8, c9, c10], _ => exact ⟨c0, c1, c2, c3, c4, c5, c6, c7, c8, c9, c10, rfl⟩
  obtain ⟨xs, n, rfl, hx, _, hxl, hall⟩ := DataW.trod_struct Try.underlying67 hf
  obtain ⟨x0, x1, x2, rfl⟩ : ∃ x0 x1 x2, xs = [x0, x1, x2] := by
    match xs, hxl with
    | [x0, x1, x2], _ => exact ⟨x0, x1, x2, rfl⟩
  have g0 := hall 0 { name := "Do", type := 5, offset := 0, embedded := false, tag := "", pkgPath := "", byteOffset := 0 } rfl
  dsimp only at g0
  rw [cells5] at g0
  replace g0 : DataW.trod enc Try.prog W base2 sp held n 5 [c0] = some x0 := g0
  have g1 := hall 1 { name := "M", type := 34, offset := 1, embedded := false, tag := "", pkgPath := "", byteOffset := 8 } rfl
  dsimp only at g1
  rw [cells34] at g1
  replace g1 : DataW.trod enc Try.prog W base2 sp held n 34 [c1, c2, c3, c4, c5, c6, c7, c8, c9] = some x1 := g1
  have g2 := hall 2 { name := "Data", type := 9, offset := 10, embedded := false, tag := "", pkgPath := "", byteOffset := 96 } rfl
  dsimp only at g2
  rw [cells9] at g2
  replace g2 : DataW.trod enc Try.prog W base2 sp held n 9 [c10] = some x2 := g2
  obtain ⟨zz0, e0, -, w0⟩ := DataW.trod_int Try.underlying5 g0
  have b0 := bounds_u8 w0
  obtain ⟨z0, rfl⟩ : ∃ k : Nat, zz0 = (k : Int) := ⟨zz0.toNat, by omega⟩
  obtain rfl : c0 = .int .u8 (z0 : Nat) := by simpa using e0
  obtain ⟨m, E, c, hm1, hm2, hm3⟩ := msg_trod rfl g1
  obtain ⟨s2, e2, -, w2⟩ := DataW.trod_string Try.underlying9 g2
  obtain rfl : c10 = .string s2 := by simpa using e2
  refine ⟨⟨z0, m, E, c, s2⟩, ?_, by dsimp only; omega, hm2, hm3, by unfold maxLen at w2; dsimp only; omega⟩
  unfold acell
  dsimp only
  rw [← hm1]
  rfl
abbrev RdA := RdL acell 11
set_option maxRecDepth 100000 in
theorem open_acts {H : Type} {enc : TypeId × Value → H} {W : World} {base base2 : Nat} {sp : Nat → Bool} {held : Bool} {v0 : Value} {d0 : DataW H} {p0 : List MemPlace}
    (hval : Value.okWide Try.prog W .any base 60 v0) (h0 : DataW.Trod enc Try.prog W base2 sp held 60 v0 d0 p0) :
    ∃ (A : Option Addr) (l : List Ac) (c : Nat), v0 = .slice A l.length c ∧ RdA W A l ∧ l.length ≤ 9223372036854775807 ∧ ∀ x ∈ l, AcOk W x := by
  obtain ⟨a0, len0, cap0, rfl⟩ := okWide_slice Try.underlying60 hval
  obtain ⟨fuel, hf⟩ := h0
  rcases open_slice Try.underlying60 hf with ⟨hcs, _⟩ | ⟨a, len, cap, m, n, D, Pl, hcs, _, hl, hm, hmm, _, hrow⟩
  · simp [Value.cells] at hcs
    obtain ⟨rfl, rfl, rfl⟩ := hcs
    exact ⟨none, [], 0, rfl, .inl rfl, by simp, by simp⟩
  · simp [Value.cells] at hcs
    obtain ⟨rfl, rfl, rfl⟩ := hcs
    have hlm : len0 ≤ m := by rw [hmm]; split <;> omega
    have each : ∀ r, r < len0 → ∃ x : Ac, (∀ j v, (acell x)[j]? = some v → W.cell? (a.add (r * 11 + j)) = some v) ∧ AcOk W x := fun r hr => by
      obtain ⟨cs', hc, ht⟩ := hrow r (by omega)
      rw [cells67] at hc
      obtain ⟨_, hcl, hat⟩ := World.cells?_some hc
      obtain ⟨x, rfl, hx⟩ := act_trod (by omega) ht
      refine ⟨x, fun j v hj => ?_, hx⟩
      have hj2 := (List.getElem?_eq_some_iff.1 hj).1
      rw [acell_len] at hj2
      rw [← Go.Deep.add_add, hat j hj2, hj]
    obtain ⟨ps, hps, hp⟩ := exists_list len0 each
    refine ⟨some a, ps, cap0, by rw [hps], ?_, by rw [hps]; unfold maxLen at hm; omega, fun x hx => ?_⟩
    · rcases Nat.eq_zero_or_pos len0 with h0 | h0
      · left; exact List.eq_nil_of_length_eq_zero (by omega)
      · right
        obtain ⟨p, hc0, _⟩ := each 0 h0
        obtain ⟨b, off, spot⟩ := a
        have hc1 := hc0 0 _ rfl
        have hs : spot = none := by
          have := World.cell?_spot hc1
          simpa [Addr.add] using this
        subst hs
        refine ⟨b, off, rfl, ?_, fun i x hx j v hj => ?_⟩
        · have := World.block_lt_of_cell? W _ hc1
          simpa [addr_add] using this
        · have h1 := (hp i x hx).1 j v hj
          rw [addr_add, ← Nat.add_assoc] at h1
          exact h1
    · obtain ⟨k, hk⟩ := List.getElem?_of_mem hx
      exact (hp k x hk).2
/-- An act of a list. -/
theorem acts_at {w : World} {A : Option Addr} {l : List Ac} (h : RdA w A l) {k : Nat} {x : Ac} (hx : l[k]? = some x) :
    ∃ b off, A = some ⟨b, off, none⟩ ∧ b < w.heap.size ∧ ∀ j v, (acell x)[j]? = some v → w.cell? ⟨b, off + k * 11 + j, none⟩ = some v := by
  rcases h with h | ⟨b, off, hA, hb, hat⟩
  · rw [h] at hx; simp at hx
  · exact ⟨b, off, hA, hb, fun j v hj => hat k x hx j v hj⟩

/-! Rows that are written over. -/
theorem Chg.setCells {T : Nat → Prop} {w : World} {b : Nat} (hb : T b) : ∀ (vs : List Value) (o : Nat) (w' : World), Chg T w w' → Chg T w (w'.setCells b o vs)
  | [], _, _, h => h
  | v :: r, o, w', h => by rw [World.setCells]; exact Chg.setCells hb r (o + 1) _ (h.setCell (p := ⟨b, o, none⟩) hb v)
/-- A row of entries is there, in blocks that may be written. -/
def Ther (w : World) (T : Nat → Prop) (A : Option Addr) (n : Nat) : Prop := n = 0 ∨ ∃ g, A = some ⟨g, 0, none⟩ ∧ T g ∧ w.there g 0 (n * 2)
theorem Ther.setCells {w : World} {T : Nat → Prop} {A : Option Addr} {n : Nat} (h : Ther w T A n) (b o : Nat) (vs : List Value) : Ther (w.setCells b o vs) T A n := by
  rcases h with h | ⟨g, h1, h2, h3⟩
  · exact .inl h
  · exact .inr ⟨g, h1, h2, World.there_setCells h3 b o vs⟩
theorem Ther.mono {w : World} {T T' : Nat → Prop} {A : Option Addr} {n : Nat} (h : Ther w T A n) (hT : ∀ b, T b → T' b) : Ther w T' A n := by
  rcases h with h | ⟨g, h1, h2, h3⟩
  · exact .inl h
  · exact .inr ⟨g, h1, hT g h2, h3⟩
theorem Ther.at_ {w : World} {T : Nat → Prop} {A : Option Addr} {n k : Nat} (h : Ther w T A n) (hk : k < n) : ∃ g, A = some ⟨g, 0, none⟩ ∧ T g ∧ w.there g (k * 2) 2 := by
  rcases h with h | ⟨g, h1, h2, h3⟩
  · omega
  · refine ⟨g, h1, h2, fun j hj => ?_⟩
    have := h3 (k * 2 + j) (by omega)
    rw [Nat.zero_add] at this
    exact this
theorem Ther.of_own {w : World} {T : Nat → Prop} {B n c : Nat} {A : Option Addr} {xs : List Value} (h : w.ownsRow B 39 2 (.slice A n c) n xs) (hT : ∀ a, A = some a → T a.block) : Ther w T A n := by
  rcases h.2 with ⟨h1, h2⟩ | ⟨g, cap, cur, h1, h2, h3, h4, h5, h6, h7⟩
  · exact .inl h2
  · injection h1 with e1 e2 e3
    subst e1
    refine .inr ⟨g, rfl, hT _ rfl, fun j hj => ?_⟩
    have hb : Blk w g 39 cur := h3
    rw [Nat.zero_add, hb.cell, Array.getElem?_eq_getElem (by omega)]
    exact ⟨rfl, hb.frozen j⟩

/-- Messages in blocks of Z, and their entries. -/
def MsZ (w : World) (Z : Nat → Prop) (D : Option Addr) (n c : Nat) (ms : List Mg) : Prop :=
  ∃ X : List Mx, X.map (·.1) = ms ∧ n = X.length ∧ (w.ownsRow 0 34 9 (.slice D n c) n (rowOf xcell X) ∧ ∀ g, (Value.slice D n c).ownBlock = some g → Z g) ∧
    ∀ x ∈ X, w.ownsRow 0 39 2 (.slice x.2.1 x.1.ents.length x.2.2) x.1.ents.length (rowOf ecell x.1.ents) ∧ ∀ g, (Value.slice x.2.1 x.1.ents.length x.2.2).ownBlock = some g → Z g
section
variable {w w' : World} {Z : Nat → Prop} {D : Option Addr} {n c B : Nat} {ms : List Mg}
theorem MsR.toZ (h : MsR w B D n c ms) (hX : ∀ b, B ≤ b → b < w.heap.size → Z b) : MsZ w Z D n c ms := by
  obtain ⟨X, h1, h2, h3, h4⟩ := h
  exact ⟨X, h1, h2, ⟨own_at h3 (fun _ _ => Nat.zero_le _), fun g hg => hX g (World.ownsRow.lt h3 g hg).1 (World.ownsRow.lt h3 g hg).2⟩,
    fun x hx => ⟨own_at (h4 x hx) (fun _ _ => Nat.zero_le _), fun g hg => hX g (World.ownsRow.lt (h4 x hx) g hg).1 (World.ownsRow.lt (h4 x hx) g hg).2⟩⟩
theorem MsZ.chg {T : Nat → Prop} (h : MsZ w Z D n c ms) (hc : Chg T w w') (hT : ∀ b, Z b → ¬ T b) : MsZ w' Z D n c ms := by
  obtain ⟨X, h1, h2, h3, h4⟩ := h
  exact ⟨X, h1, h2, ⟨own_chg h3.1 hc (fun g hg => hT g (h3.2 g hg)), h3.2⟩, fun x hx => ⟨own_chg (h4 x hx).1 hc (fun g hg => hT g ((h4 x hx).2 g hg)), (h4 x hx).2⟩⟩
theorem MsZ.below (h : MsZ w Z D n c ms) (hb : Below w.heap.size w w') : MsZ w' Z D n c ms := h.chg (T := fun _ => False) (.of_below hb) (fun _ _ h => h)
theorem MsZ.toR (h : MsZ w Z D n c ms) : MsR w 0 D n c ms := by
  obtain ⟨X, h1, h2, h3, h4⟩ := h
  exact ⟨X, h1, h2, h3.1, fun x hx => (h4 x hx).1⟩
end
set_option maxRecDepth 100000 in
set_option maxHeartbeats 4000000 in
theorem spoil_any (D : Option Addr) (d : Nat) (Z : Nat → Prop) (ms : List Mg) (w : World) (h : MsZ w Z D ms.length d ms) (hml : ms.length ≤ 100000) (hents : ∀ m ∈ ms, m.ents.length ≤ 100000) :
    Calls Try.prog 60 #[.slice D ms.length d] w fun e w' => e = .returned (.tuple #[]) ∧ Chg Z w w' := by
  obtain ⟨X, hX1, hX2, ⟨hX3, _⟩, hX4⟩ := h
  obtain ⟨n, hn⟩ : ∃ n, n = ms.length := ⟨_, rfl⟩
  rw [← hn] at hX2 hX3 hml ⊢
  have HT : Hid (∃ TE : Nat → Prop, TE = fun b => Z b ∧ (Value.slice D n d).ownBlock ≠ some b) := ⟨_, rfl⟩
  obtain ⟨TE, hTE⟩ := HT
  have hth : ∀ x ∈ X, Ther w TE x.2.1 x.1.ents.length := fun x hx => .of_own (hX4 x hx).1 (fun a ha => by
    have hb := own_block (hX4 x hx).1 a ha
    rw [hTE]
    refine ⟨(hX4 x hx).2 _ hb, fun he => ?_⟩
    rcases hX3.2 with ⟨e1, _⟩ | ⟨g', cap, cur, e1, _, hh, _⟩
    · rw [e1] at he; simp [Value.ownBlock] at he
    · rw [e1] at he
      have : g' = a.block := by simpa [Value.ownBlock] using he
      subst this
      exact own_blk_ne (hX4 x hx).1 hh (by decide) hb)
  have HME : Hid (∀ wr, Chg TE w wr → ∀ k x, X[k]? = some x → ∃ b, D = some ⟨b, 0, none⟩ ∧ wr.cell? ⟨b, k * 9 + 6, none⟩ = some (.slice x.2.1 x.1.ents.length x.2.2)) := Lib.hid (fun wr hc k x hx => by
    have ho := own_chg hX3 hc (fun g hg ht => by rw [hTE] at ht; exact ht.2 hg)
    have hkl : k < X.length := (List.getElem?_eq_some_iff.1 hx).1
    obtain ⟨g, cap, hv, _, hlt⟩ := ho.form (by omega)
    have hD : D = some ⟨g, 0, none⟩ := by injection hv
    subst hD
    refine ⟨g, rfl, ?_⟩
    have h5 := ho.cells (g := g) rfl (k * 9 + 6) (.slice x.2.1 x.1.ents.length x.2.2) (rowOf_get xcell_len X k x 6 _ hx rfl)
    rw [addr_add, Nat.zero_add] at h5
    exact h5)
  have HEN : Hid (∀ x ∈ X, x.1.ents.length ≤ 100000) := Lib.hid (fun x hx => hents x.1 (by rw [← hX1]; exact List.mem_map_of_mem hx))
  have HTT : Hid (∀ b, TE b → Z b) := Lib.hid (fun b hb => by rw [hTE] at hb; exact hb.1)
  have HTH := Lib.hid hth
  have HX2 := Lib.hid hX2
  clear hX1 hX2 hX3 hX4 hth hents hn hTE
  go_enter Try.func60, Try.ntmps60
  go_wp2_with fail
  go_loopw [2] (fun s2 wr => ∃ k : Nat, s2 = .int .i64 (k : Nat) ∧ k ≤ n ∧ Chg TE w wr ∧ ∀ x ∈ X, Ther wr TE x.2.1 x.1.ents.length) (fun s2 _ => n - (intOf s2).toNat)
  case atStart => exact ⟨0, rfl, by omega, Chg.refl _ _, HTH.out⟩
  case round =>
    obtain ⟨k, rfl, hk, hc, ht⟩ := hrel
    have H1 := Lib.hid (And.intro hc ht)
    clear hc ht
    by_cases hlt : k < n
    · have hd1 : decide ((k : Int) < (n : Int)) = true := decide_eq_true (by omega)
      have hkn : (k : Int) < (n : Int) := by omega
      have hk0 : (0 : Int) ≤ (k : Int) := by omega
      obtain ⟨x, hx⟩ : ∃ x, X[k]? = some x := ⟨_, List.getElem?_eq_getElem (by rw [← HX2.out]; exact hlt)⟩
      have HXX := Lib.hid (And.intro hx (List.mem_of_getElem? hx))
      obtain ⟨m, E, c⟩ := x
      obtain ⟨q, hq⟩ : ∃ q, q = m.ents.length := ⟨_, rfl⟩
      have HQ := Lib.hid hq
      have hq9 : q ≤ 100000 := by rw [hq]; exact HEN.out _ HXX.out.2
      clear hx hq
      go_wp2_with fail
      go_loopw [3] (fun s3 wl => ∃ j : Nat, s3 = .int .i64 (j : Nat) ∧ j ≤ q ∧ Chg TE w wl ∧ ∀ x ∈ X, Ther wl TE x.2.1 x.1.ents.length) (fun s3 _ => q - (intOf s3).toNat)
      case atStart => exact ⟨0, rfl, by omega, H1.out.1, H1.out.2⟩
      case round =>
        obtain ⟨j, rfl, hj, hc, ht⟩ := hrel
        have H2 := Lib.hid (And.intro hc ht)
        clear hc ht
        obtain ⟨b, hD, x6⟩ := HME.out wr H2.out.1 k _ HXX.out.1
        subst hD
        dsimp only at x6
        rw [← HQ.out] at x6
        by_cases hjl : j < q
        · have hd2 : decide ((j : Int) < (q : Int)) = true := decide_eq_true (by omega)
          have hjq : (j : Int) < (q : Int) := by omega
          have hj0 : (0 : Int) ≤ (j : Int) := by omega
          have h3 := (H2.out.2 _ HXX.out.2)
          dsimp only at h3
          rw [← HQ.out] at h3
          obtain ⟨ge, hE, hTg, hthr⟩ := h3.at_ hjl
          subst hE
          have HTG := Lib.hid (And.intro hTg hthr)
          clear h3 hTg hthr
          go_wp2_with (first | (refine wpList_store_mid rfl 39 (.tmp 27) (.tmp 26) rfl ge (j * 2) #[.int .i64 97, .string ⟨#[119, 114, 105, 116, 116, 101, 110, 32, 111, 118, 101, 114]⟩] rfl rfl HTG.out.2 (by kernel_rfl) (by kernel_rfl) ?_) | fail)
          go_roundw
          case rel => exact ⟨j + 1, by go_num, by omega, Chg.setCells HTG.out.1 _ _ _ H2.out.1, fun x hx => (H2.out.2 x hx).setCells _ _ _⟩
          case measure => simp [intOf]; omega
        · have hd2 : decide ((j : Int) < (q : Int)) = false := decide_eq_false (by omega)
          go_wp2_with fail
          go_roundw
          case rel => exact ⟨k + 1, by go_num, by omega, H2.out.1, H2.out.2⟩
          case measure => simp [intOf]; omega
    · have hd1 : decide ((k : Int) < (n : Int)) = false := decide_eq_false (by omega)
      go_wp2_with fail
      go_end0
      exact ⟨rfl, H1.out.1.mono HTT.out⟩

def bigB (l : List Ent) : Bool := decide (60 < l.length) || l.any fun x => decide (100 < x.data.size)
def badA (x : Ac) : Bool := bigB x.m.ents || decide (100 < x.data.size)
def heavyB (l : List Ac) : Bool := (l.take 60).any badA || decide (60 < l.length)
theorem any_take_succ {α : Type} {l : List α} {f : α → Bool} {k : Nat} {x : α} (hx : l[k]? = some x) : (l.take (k + 1)).any f = ((l.take k).any f || f x) := by
  have hk := (List.getElem?_eq_some_iff.1 hx).1
  have he : l[k] = x := (List.getElem?_eq_some_iff.1 hx).2
  rw [List.take_succ_eq_append_getElem hk, List.any_append, he]
  simp
theorem any_take_of {α : Type} {l : List α} {f : α → Bool} {k m : Nat} {x : α} (hx : l[k]? = some x) (hkm : k < m) (hf : f x = true) : (l.take m).any f = true := by
  rw [List.any_eq_true]
  refine ⟨x, List.mem_of_getElem? (i := k) ?_, hf⟩
  rw [List.getElem?_take, if_pos hkm]
  exact hx
set_option maxRecDepth 100000 in
set_option maxHeartbeats 4000000 in
theorem heavy_any (A : Option Addr) (c : Nat) (l : List Ac) (w : World) (hrd : RdA w A l) (hlen : l.length ≤ 9223372036854775807) (hok : ∀ x ∈ l, AcOk w x) :
    Calls Try.prog 26 #[.slice A l.length c] w fun e w' => e = .returned (.bool (heavyB l)) ∧ w' = w := by
  obtain ⟨R, hR⟩ : ∃ R, R = heavyB l := ⟨_, rfl⟩
  obtain ⟨n, hn⟩ : ∃ n, n = l.length := ⟨_, rfl⟩
  have HH := Lib.hid (And.intro hrd (And.intro hn (And.intro hR hok)))
  rw [← hR]
  rw [← hn] at hlen ⊢
  clear hrd hn hR hok
  go_enter Try.func26, Try.ntmps26
  go_wp2_with fail
  go_loopw [3] (fun s3 wr => ∃ k : Nat, s3 = .int .i64 (k : Nat) ∧ k ≤ n ∧ k ≤ 60 ∧ (l.take k).any badA = false ∧ wr = w) (fun s3 _ => n - (intOf s3).toNat)
  case atStart => exact ⟨0, rfl, by omega, by omega, rfl, rfl⟩
  case round =>
    obtain ⟨k, rfl, hk, hk60, hany, rfl⟩ := hrel
    have HB := Lib.hid hany
    clear hany
    by_cases hlt : k < n
    · have d0 : decide ((k : Int) < (n : Int)) = true := decide_eq_true (by omega)
      by_cases h60 : k < 60
      · have d1 : decide ((k : Int) < 60) = true := decide_eq_true (by omega)
        have hkn : (k : Int) < (n : Int) := by omega
        have hk0 : (0 : Int) ≤ (k : Int) := by omega
        obtain ⟨x, hx⟩ : ∃ x, l[k]? = some x := ⟨_, List.getElem?_eq_getElem (by rw [← HH.out.2.1]; exact hlt)⟩
        obtain ⟨b, off, hA, hbl, hat⟩ := acts_at HH.out.1 hx
        subst hA
        have x6 := hat 7 _ rfl
        have x10 := hat 10 _ rfl
        have HX := Lib.hid hx
        have HO := Lib.hid (HH.out.2.2.2 x (List.mem_of_getElem? hx))
        have HBG := Lib.hid (big_any x.E x.c x.m.ents wr HO.out.e.rd (Nat.le_trans HO.out.e.cap HO.out.e.max))
        clear hat hx
        obtain ⟨dd, m, E, c, data⟩ := x
        dsimp only at x6 x10 HBG
        have hbd : badA ⟨dd, m, E, c, data⟩ = (bigB m.ents || decide (100 < data.size)) := rfl
        obtain ⟨bb, hbb⟩ : ∃ z, z = bigB m.ents := ⟨_, rfl⟩
        have HBD : Hid (badA ⟨dd, m, E, c, data⟩ = (bb || decide (100 < data.size))) := by rw [hbb]; exact Lib.hid hbd
        have HBG2 : Hid (Calls Try.prog 25 #[.slice E m.ents.length c] wr fun e w' => e = .returned (.bool bb) ∧ w' = wr) := by rw [hbb]; exact HBG
        clear hbd hbb HBG
        obtain ⟨q, hq⟩ : ∃ q, q = m.ents.length := ⟨_, rfl⟩
        rw [← hq] at x6 HBG2
        clear hq
        have hds : data.size ≤ 9223372036854775807 := HO.out.t
        go_wp2_with fail
        refine HBG2.out.mono ?_
        rintro e w2 ⟨rfl, hw2⟩
        subst hw2
        cases bb
        · by_cases hdl : 100 < data.size
          · have d2 : decide ((100 : Int) < (data.size : Int)) = true := decide_eq_true (by omega)
            have HRT : Hid (R = true) := by rw [HH.out.2.2.1]; unfold heavyB; rw [any_take_of HX.out h60 (by rw [HBD.out, decide_eq_true hdl]; rfl)]; exact Lib.hid rfl
            go_wp2_with fail
            go_ret
            exact ⟨ret_bool HRT.out.symm, rfl⟩
          · have d2 : decide ((100 : Int) < (data.size : Int)) = false := decide_eq_false (by omega)
            have HRT : Hid ((l.take (k + 1)).any badA = false) := by rw [any_take_succ HX.out, HB.out, HBD.out, decide_eq_false hdl]; exact Lib.hid rfl
            go_wp2_with fail
            go_roundw
            case rel => exact ⟨k + 1, by go_num, by omega, by omega, HRT.out, trivial⟩
            case measure => simp [intOf]; omega
        · have HRT : Hid (R = true) := by rw [HH.out.2.2.1]; unfold heavyB; rw [any_take_of HX.out h60 (by rw [HBD.out]; rfl)]; exact Lib.hid rfl
          go_wp2_with fail
          go_ret
          exact ⟨ret_bool HRT.out.symm, rfl⟩
      · have d1 : decide ((k : Int) < 60) = false := decide_eq_false (by omega)
        have d2 : decide ((60 : Int) < (n : Int)) = true := decide_eq_true (by omega)
        have HRT : Hid (R = true) := by rw [HH.out.2.2.1]; unfold heavyB; rw [← HH.out.2.1, decide_eq_true (show 60 < n by omega), Bool.or_true]; exact Lib.hid rfl
        go_wp2_with fail
        go_ret
        exact ⟨ret_bool HRT.out.symm, rfl⟩
    · have d0 : decide ((k : Int) < (n : Int)) = false := decide_eq_false (by omega)
      have d2 : decide ((60 : Int) < (n : Int)) = false := decide_eq_false (by omega)
      have HRT : Hid (R = false) := by
        have hz := HB.out
        rw [List.take_of_length_le (by rw [← HH.out.2.1]; omega)] at hz
        rw [HH.out.2.2.1]; unfold heavyB; rw [← HH.out.2.1, decide_eq_false (show ¬ 60 < n by omega), List.take_of_length_le (by rw [← HH.out.2.1]; omega), hz]; exact Lib.hid rfl
      go_wp2_with fail
      go_ret
      exact ⟨ret_bool HRT.out.symm, rfl⟩
end Go.Proofs.Ytjodglepaeomiaa
