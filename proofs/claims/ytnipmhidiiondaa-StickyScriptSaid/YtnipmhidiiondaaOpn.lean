/- What is told of a list of steps that came in; the law's among; sublists. -/
import Derived.Deep.Slices
import Derived.Deep.Fields
import Derived.ChangeSame
import Derived.ProofKit
import Derived.OpenShut
import Derived.Deep.QuietTactic
import Derived.BigQuiet
import Derived.Test.YtnipmhidiiondaaAwk
namespace Go.Proofs.Ytnipmhidiiondaa
open Go.ChangeShapes Go.WideShapes Go.ChangeAt Go.RowKit Go.Deep

section
variable {H : Type} {enc : TypeId × Value → H} {P : Program} {w : World} {base : Nat} {spare : Nat → Bool} {held : Bool}
theorem open_slice_fields {t e : TypeId} {fs : Array Field} {fuel : Nat} {cs : List Value} {x : DataW H × List MemPlace} (ht : P.underlying t = some (.slice e)) (he : P.underlying e = some (.struct fs))
    (hone : oneCellFields P fs = true) (hC : P.cellsOf e = fs.size) (h : DataW.trod enc P w base spare held fuel t cs = some x) :
    (cs = [.slice none 0 0] ∧ x = (.nil, [])) ∨
    ∃ (a : Addr) (len cap m : Nat) (D : Nat → DataW H) (Pl : Nat → List MemPlace), cs = [.slice (some a) len cap] ∧ base ≤ a.block ∧ len ≤ cap ∧ cap ≤ maxLen ∧ m = (if spare a.block then cap else len) ∧
      x = (.slice ((List.range len).map D) ((List.range (m - len)).map fun j => D (len + j)), MemPlace.row a (m * fs.size) ++ (List.range m).flatMap Pl) ∧
      ∀ i, i < m → ∃ (ys : List (DataW H × List MemPlace)) (n : Nat), D i = .agg (ys.map (·.1)) ∧ Pl i = ys.flatMap (·.2) ∧ ys.length = fs.size ∧
        ∀ (j : Nat) (f : Field), fs[j]? = some f → ∃ (v : Value) (y : DataW H × List MemPlace), w.cell? (a.add (i * fs.size + j)) = some v ∧ ys[j]? = some y ∧ DataW.trod enc P w base spare held n f.type [v] = some y := by
  rcases open_slice ht h with h0 | ⟨a, len, cap, m, n, D, Pl, hcs, hb, hl, hm, hmm, hx, hi⟩
  · exact .inl h0
  · refine .inr ⟨a, len, cap, m, D, Pl, hcs, hb, hl, hm, hmm, by rw [hC] at hx; exact hx, fun i him => ?_⟩
    obtain ⟨cs', hc, ht'⟩ := hi i him
    rw [hC] at hc
    obtain ⟨ys, n', hn', hy, hlen, hyl, hf⟩ := DataW.trod_struct he ht'
    obtain ⟨_, hcl, hat⟩ := World.cells?_some hc
    simp only [Prod.mk.injEq] at hy
    refine ⟨ys, n', hy.1, hy.2, hyl, fun j f hj => ?_⟩
    obtain ⟨ho, hk⟩ := hone_of hone j f hj
    have hjl : j < fs.size := (Array.getElem?_eq_some_iff.1 hj).1
    have hcell := hat j hjl
    have hv : cs'[j]? = some (cs'[j]'(by omega)) := List.getElem?_eq_getElem (by omega)
    have h1 := hf j f hj
    rw [ho, hk] at h1
    have hone' : (cs'.drop j).take 1 = [cs'[j]'(by omega)] := by
      rw [List.drop_eq_getElem_cons (by omega)]
      rfl
    rw [hone'] at h1
    have hys : ys[j]? = some (ys[j]'(by omega)) := List.getElem?_eq_getElem (by omega)
    refine ⟨_, _, ?_, hys, h1.trans hys⟩
    rw [← Go.Deep.add_add, hcell, hv]
end

/-- A step. -/
structure Stp where
  op : Nat
  name : ByteArray
  v : Int
def StpAt (w : World) (b o : Nat) (s : Stp) : Prop := w.cell? ⟨b, o, none⟩ = some (.int .u8 (s.op : Nat)) ∧ w.cell? ⟨b, o + 1, none⟩ = some (.string s.name) ∧ w.cell? ⟨b, o + 2, none⟩ = some (.int .i64 s.v)
def RdS (w : World) (A : Option Addr) (l : List Stp) : Prop := l = [] ∨ ∃ b off, A = some ⟨b, off, none⟩ ∧ b < w.heap.size ∧ ∀ k s, l[k]? = some s → StpAt w b (off + k * 3) s
theorem exists_list {α : Type} {P : Nat → α → Prop} : ∀ n, (∀ r, r < n → ∃ l, P r l) → ∃ ls : List α, ls.length = n ∧ ∀ r l, ls[r]? = some l → P r l
  | 0, _ => ⟨[], rfl, fun r l h => by simp at h⟩
  | n + 1, h => by
    obtain ⟨ls, hl, hp⟩ := exists_list n (fun r hr => h r (by omega))
    obtain ⟨x, hx⟩ := h n (by omega)
    refine ⟨ls ++ [x], by simp [hl], fun r l hr => ?_⟩
    rw [List.getElem?_append] at hr
    split at hr
    · exact hp r l hr
    · have h0 : r - ls.length = 0 := by
        rcases Nat.eq_zero_or_pos (r - ls.length) with h | h
        · exact h
        · rw [List.getElem?_eq_none (by simp; omega)] at hr; cases hr
      rw [h0] at hr
      have e1 : x = l := by simpa using hr
      have e2 : r = n := by
        have : ¬ r < ls.length := by assumption
        omega
      rw [← e1, e2]; exact hx
theorem RdS.keep {w w' : World} {A : Option Addr} {l : List Stp} (h : RdS w A l) (hb : Below w.heap.size w w') : RdS w' A l := by
  rcases h with h | ⟨b, off, rfl, hlt, h⟩
  · exact .inl h
  · exact .inr ⟨b, off, rfl, Nat.lt_of_lt_of_le hlt hb.size, fun k s hs => ⟨(hb.cell (p := ⟨b, _, none⟩) hlt).trans (h k s hs).1, (hb.cell (p := ⟨b, _, none⟩) hlt).trans (h k s hs).2.1, (hb.cell (p := ⟨b, _, none⟩) hlt).trans (h k s hs).2.2⟩⟩
theorem open_steps {H : Type} {enc : TypeId × Value → H} {W : World} {base : Nat} {v0 : Value} {d0 : DataW H} {p0 : List MemPlace}
    (hval : Value.okWide Try.prog W .any base 22 v0) (h0 : DataW.Trod enc Try.prog W 0 (fun _ => true) true 22 v0 d0 p0) :
    ∃ (A : Option Addr) (l : List Stp) (c : Nat), v0 = .slice A l.length c ∧ RdS W A l ∧ l.length ≤ 9223372036854775807 ∧ ∀ s ∈ l, s.name.size ≤ maxLen := by
  obtain ⟨a0, len0, cap0, rfl⟩ := okWide_slice Try.underlying22 hval
  obtain ⟨fuel, hf⟩ := h0
  rcases open_slice_fields Try.underlying22 Try.underlying29 (by kernel_rfl) (by kernel_rfl) hf with ⟨hcs, _⟩ | ⟨a, len, cap, m, D, Pl, hcs, _, hl, hm, hmm, _, hrow⟩
  · simp [Value.cells] at hcs
    obtain ⟨rfl, rfl, rfl⟩ := hcs
    exact ⟨none, [], 0, rfl, .inl rfl, by simp, by simp⟩
  · simp [Value.cells] at hcs
    obtain ⟨rfl, rfl, rfl⟩ := hcs
    have hlm : len0 ≤ m := by rw [hmm]; split <;> omega
    have each : ∀ r, r < len0 → ∃ s : Stp, (W.cell? (a.add (r * 3)) = some (.int .u8 (s.op : Nat)) ∧ W.cell? (a.add (r * 3 + 1)) = some (.string s.name) ∧ W.cell? (a.add (r * 3 + 2)) = some (.int .i64 s.v)) ∧ s.name.size ≤ maxLen := fun r hr => by
      obtain ⟨ys, n, _, _, _, hfl⟩ := hrow r (by omega)
      obtain ⟨v0, y0, hc0, _, ht0⟩ := hfl 0 _ rfl
      obtain ⟨v1, y1, hc1, _, ht1⟩ := hfl 1 _ rfl
      obtain ⟨v2, y2, hc2, _, ht2⟩ := hfl 2 _ rfl
      obtain ⟨n0, e0, _, w0⟩ := DataW.trod_int Try.underlying5 ht0
      obtain ⟨s1, e1, _, w1⟩ := DataW.trod_string Try.underlying9 ht1
      obtain ⟨n2, e2, _, _⟩ := DataW.trod_int Try.underlying3 ht2
      have hb := bounds_u8 w0
      obtain ⟨k0, rfl⟩ : ∃ k : Nat, n0 = (k : Int) := ⟨n0.toNat, by omega⟩
      injection e0 with e0
      injection e1 with e1
      injection e2 with e2
      subst e0; subst e1; subst e2
      exact ⟨⟨k0, s1, n2⟩, ⟨hc0, hc1, hc2⟩, w1⟩
    obtain ⟨ls, hls, hp⟩ := exists_list len0 each
    refine ⟨some a, ls, cap0, by rw [hls], ?_, by rw [hls]; unfold maxLen at hm; omega, fun s hs => ?_⟩
    · rcases Nat.eq_zero_or_pos len0 with h0 | h0
      · left; exact List.eq_nil_of_length_eq_zero (by omega)
      · right
        obtain ⟨s, ⟨hc0, _, _⟩, _⟩ := each 0 h0
        obtain ⟨b, off, spot⟩ := a
        have hs : spot = none := by
          have := World.cell?_spot hc0
          simpa [Addr.add] using this
        subst hs
        refine ⟨b, off, rfl, ?_, fun k s hk => ?_⟩
        · have := World.block_lt_of_cell? W _ hc0
          simpa [addr_add] using this
        · obtain ⟨⟨h1, h2, h3⟩, _⟩ := hp k s hk
          rw [addr_add] at h1 h2 h3
          exact ⟨h1, h2, h3⟩
    · obtain ⟨k, hk⟩ := List.getElem?_of_mem hs
      exact (hp k s hk).2

/-! ### Sublists -/
def amg : List ByteArray → List ByteArray → Bool
  | [], _ => true
  | _ :: _, [] => false
  | x :: a, y :: b => if y = x then amg a b else amg (x :: a) b
theorem amg_sub : ∀ {a b : List ByteArray}, a.Sublist b → amg a b = true
  | [], b, _ => by cases b <;> rfl
  | x :: a, [], h => by cases h
  | x :: a, y :: b, h => by
    unfold amg
    split
    · rename_i e
      cases h with
      | cons _ h => exact amg_sub ((List.sublist_cons_self x a).trans h)
      | cons_cons _ h => exact amg_sub h
    · rename_i e
      cases h with
      | cons _ h => exact amg_sub h
      | cons_cons _ h => exact absurd rfl e
theorem amg_step_yes {a b : List ByteArray} {i k : Nat} {x : ByteArray} (ha : a[k]? = some x) (hb : b[i]? = some x) : amg (a.drop k) (b.drop i) = amg (a.drop (k + 1)) (b.drop (i + 1)) := by
  obtain ⟨h1, e1⟩ := List.getElem?_eq_some_iff.1 ha
  obtain ⟨h2, e2⟩ := List.getElem?_eq_some_iff.1 hb
  rw [List.drop_eq_getElem_cons h1, List.drop_eq_getElem_cons h2, e1, e2]
  conv => lhs; unfold amg
  rw [if_pos rfl]
theorem amg_step_no {a b : List ByteArray} {i k : Nat} {x y : ByteArray} (ha : a[k]? = some x) (hb : b[i]? = some y) (hne : y ≠ x) : amg (a.drop k) (b.drop i) = amg (a.drop k) (b.drop (i + 1)) := by
  obtain ⟨h1, e1⟩ := List.getElem?_eq_some_iff.1 ha
  obtain ⟨h2, e2⟩ := List.getElem?_eq_some_iff.1 hb
  rw [List.drop_eq_getElem_cons h1, List.drop_eq_getElem_cons h2, e1, e2]
  conv => lhs; unfold amg
  rw [if_neg hne]
theorem amg_end {a b : List ByteArray} {i k : Nat} (h : b.length ≤ i ∨ a.length ≤ k) (hk : k ≤ a.length) : amg (a.drop k) (b.drop i) = decide (k = a.length) := by
  rcases Nat.lt_or_ge k a.length with hlt | hge
  · have hb : b.length ≤ i := h.resolve_right (by omega)
    rw [List.drop_eq_getElem_cons hlt, List.drop_of_length_le hb, decide_eq_false (by omega)]; rfl
  · rw [List.drop_of_length_le hge, decide_eq_true (by omega)]
    cases b.drop i <;> rfl

/-- A slice from which texts read. -/
def RdT (w : World) (A : Option Addr) (l : List ByteArray) : Prop := l = [] ∨ ∃ b off, A = some ⟨b, off, none⟩ ∧ ∀ k s, l[k]? = some s → w.cell? ⟨b, off + k, none⟩ = some (.string s)
theorem RdT.drewN {w : World} {A : Option Addr} {l : List ByteArray} (h : RdT w A l) (n : Nat) : RdT (w.drewN n) A l := h
theorem own_rdT {w : World} {base n c : Nat} {A : Option Addr} {l : List ByteArray} (h : w.ownsRow base 9 1 (.slice A n c) n (scells l)) (hn : n = l.length) : RdT w A l := by
  rcases Nat.eq_zero_or_pos n with h0 | h0
  · exact .inl (List.eq_nil_of_length_eq_zero (by omega))
  · obtain ⟨g, cap, hv, _, hlt⟩ := h.form h0
    have hA : A = some ⟨g, 0, none⟩ := by injection hv
    subst hA
    refine .inr ⟨g, 0, rfl, fun k s hs => ?_⟩
    have := h.cells (g := g) rfl k (.string s) (by unfold scells; rw [List.getElem?_map, hs]; rfl)
    rwa [addr_add] at this
theorem bytes_ne {a b : ByteArray} (h : (a.toList == b.toList) = false) : a ≠ b := by
  rintro rfl; simp at h
theorem bytes_eq {a b : ByteArray} (h : (a.toList == b.toList) = true) : a = b := by
  have h := eq_of_beq h
  rw [ByteArray.toList_eq, ByteArray.toList_eq] at h
  obtain ⟨⟨x⟩⟩ := a
  obtain ⟨⟨y⟩⟩ := b
  have : x = y := h
  rw [this]
theorem drewN_twice (w : World) (a b : Nat) : (w.drewN a).drewN b = w.drewN (a + b) := World.drewN_drewN w a b
set_option maxHeartbeats 2000000 in
theorem among_any (A B : Option Addr) (ca cb n m : Nat) (a b : List ByteArray) (w : World) (ha : RdT w A a) (hb : RdT w B b) (hn : n = a.length) (hm : m = b.length) (hn1 : n ≤ 100000) (hm1 : m ≤ 100000) :
    Calls Try.prog 11 #[.slice A n ca, .slice B m cb] w fun e w' => e = .returned (.bool (amg a b)) ∧ ∃ q, w' = w.drewN q := by
  have HA := Lib.hid ha
  have HB := Lib.hid hb
  have HN := Lib.hid hn
  have HM := Lib.hid hm
  clear ha hb hn hm
  go_enter Try.func11, Try.ntmps11
  go_wp2_with fail
  go_loopw [5, 6] (fun s5 s6 wr => ∃ k i : Nat, s5 = .int .i64 k ∧ s6 = .int .i64 i ∧ k ≤ n ∧ i ≤ m ∧ amg (a.drop k) (b.drop i) = amg a b ∧ ∃ q, wr = w.drewN q) (fun _ s6 _ => m - (intOf s6).toNat)
  case atStart => exact ⟨0, 0, rfl, rfl, by omega, by omega, rfl, 0, rfl⟩
  case round =>
    obtain ⟨k, i, rfl, rfl, hk, hi, hg, q, hw⟩ := hrel
    have HG := Lib.hid (And.intro hg hw)
    clear hg hw
    by_cases hlt : i < m
    · have hd1 : decide ((i : Int) < (m : Int)) = true := decide_eq_true (by omega)
      by_cases hlk : k < n
      · have hd2 : decide ((k : Int) < (n : Int)) = true := decide_eq_true (by omega)
        obtain ⟨x, hx⟩ : ∃ x, a[k]? = some x := ⟨_, List.getElem?_eq_getElem (by rw [← HN.out]; exact hlk)⟩
        obtain ⟨y, hy⟩ : ∃ y, b[i]? = some y := ⟨_, List.getElem?_eq_getElem (by rw [← HM.out]; exact hlt)⟩
        obtain ⟨b1, o1, rfl, h1⟩ : ∃ b off, A = some ⟨b, off, none⟩ ∧ ∀ k s, a[k]? = some s → w.cell? ⟨b, off + k, none⟩ = some (.string s) := HA.out.resolve_left (fun h => by rw [h] at hx; cases hx)
        obtain ⟨b2, o2, rfl, h2⟩ : ∃ b' off, B = some ⟨b', off, none⟩ ∧ ∀ k s, b[k]? = some s → w.cell? ⟨b', off + k, none⟩ = some (.string s) := HB.out.resolve_left (fun h => by rw [h] at hy; cases hy)
        have c1 : wr.cell? ⟨b1, o1 + k, none⟩ = some (.string x) := by rw [HG.out.2]; exact h1 k x hx
        have c2 : wr.cell? ⟨b2, o2 + i, none⟩ = some (.string y) := by rw [HG.out.2]; exact h2 i y hy
        have HXY := Lib.hid (And.intro hx hy)
        have hk0 : (0 : Int) ≤ (k : Int) := by omega
        have hkn : (k : Int) < (n : Int) := by omega
        have hi0 : (0 : Int) ≤ (i : Int) := by omega
        have him : (i : Int) < (m : Int) := by omega
        clear h1 h2 hx hy
        cases he : (y.toList == x.toList)
        · have HNE : Hid (y ≠ x) := bytes_ne he
          go_wp2_with fail
          go_quiet (fail)
          go_wp2_with fail
          go_roundw
          case rel => exact ⟨k, i + 1, rfl, by go_num, hk, by omega, (amg_step_no HXY.out.1 HXY.out.2 HNE.out).symm.trans HG.out.1, q + nq, by rw [HG.out.2]; exact drewN_twice w q nq⟩
          case measure => simp [intOf]; omega
        · have HEQ : Hid (y = x) := bytes_eq he
          go_wp2_with fail
          go_quiet (fail)
          go_wp2_with fail
          go_roundw
          case rel => exact ⟨k + 1, i + 1, by go_num, by go_num, by omega, by omega, (amg_step_yes HXY.out.1 (HEQ.out ▸ HXY.out.2)).symm.trans HG.out.1, q + nq, by rw [HG.out.2]; exact drewN_twice w q nq⟩
          case measure => simp [intOf]; omega
      · have hd2 : decide ((k : Int) < (n : Int)) = false := decide_eq_false (by omega)
        have HR : Hid (amg a b = true) := by rw [← HG.out.1, amg_end (.inr (by rw [← HN.out]; omega)) (by rw [← HN.out]; exact hk)]; exact decide_eq_true (by rw [← HN.out]; omega)
        have hkn : ((k : Int) == (n : Int)) = true := by rw [beq_iff_eq]; omega
        go_wp2_with fail
        go_ret
        exact ⟨by rw [HR.out]; rfl, q, HG.out.2⟩
    · have hd1 : decide ((i : Int) < (m : Int)) = false := decide_eq_false (by omega)
      have HR : Hid (amg a b = decide (k = n)) := by rw [← HG.out.1, amg_end (.inl (by rw [← HM.out]; omega)) (by rw [← HN.out]; exact hk), ← HN.out]; exact rfl
      by_cases hkn2 : k = n
      · have hkn : ((k : Int) == (n : Int)) = true := by rw [beq_iff_eq]; omega
        have HR2 : Hid (amg a b = true) := by rw [HR.out]; exact decide_eq_true hkn2
        clear hkn2
        go_wp2_with fail
        go_ret
        exact ⟨by rw [HR2.out]; rfl, q, HG.out.2⟩
      · have hkn : ((k : Int) == (n : Int)) = false := by rw [beq_eq_false_iff_ne]; omega
        have HR2 : Hid (amg a b = false) := by rw [HR.out]; exact decide_eq_false hkn2
        clear hkn2
        go_wp2_with fail
        go_ret
        exact ⟨by rw [HR2.out]; rfl, q, HG.out.2⟩
end Go.Proofs.Ytnipmhidiiondaa
