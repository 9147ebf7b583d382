/- Tokens in memory; contracts of token.All at a source that is too long, and of the law's wakes. -/
import Derived.Deep.MidRow
import Derived.Test.YtlfkiaphmifelaaDoorAll
import Derived.Test.YtlfkiaphmifelaaDoorAlk
namespace Go.Proofs.YtlfkiaphmifelaaDoor
open Go.RowKit

def gk (t : Tok) : Gk := ⟨t.kind, ⟨t.text.toArray⟩, t.int, t.place⟩
theorem Rd4.keep {w w' : World} {A : Option Addr} {l : List Gk} (h : Rd4 w A l) (hk : ∀ x, A = some x → ∀ p : Addr, p.block = x.block → w'.cell? p = w.cell? p) : Rd4 w' A l := by
  rcases h with h | ⟨b, off, rfl, h⟩
  · exact .inl h
  · refine .inr ⟨b, off, rfl, fun k g hg => ?_⟩
    obtain ⟨h0, h1, h2, h3⟩ := h k g hg
    have key := hk _ rfl
    exact ⟨(key ⟨b, off + k * 4, none⟩ rfl).trans h0, (key ⟨b, off + k * 4 + 1, none⟩ rfl).trans h1, (key ⟨b, off + k * 4 + 2, none⟩ rfl).trans h2, (key ⟨b, off + k * 4 + 3, none⟩ rfl).trans h3⟩
theorem Rd4.drewN {w : World} {A : Option Addr} {l : List Gk} (h : Rd4 w A l) (n : Nat) : Rd4 (w.drewN n) A l := h
theorem tcells_get (l : List Tok) : ∀ (k : Nat) (t : Tok) (j : Nat) (v : Value), l[k]? = some t → (tokCells t)[j]? = some v → (tcells l)[k * 4 + j]? = some v := by
  induction l with
  | nil => intro k t j v h; simp at h
  | cons a l ih =>
    intro k t j v hk hj
    have hl : (tokCells a).length = 4 := rfl
    have e : tcells (a :: l) = tokCells a ++ tcells l := rfl
    rw [e]
    cases k with
    | zero =>
      have : a = t := by simpa using hk
      subst this
      have hj4 : j < (tokCells a).length := (List.getElem?_eq_some_iff.1 hj).1
      rw [List.getElem?_append_left (by omega), Nat.zero_mul, Nat.zero_add]
      exact hj
    | succ k =>
      rw [List.getElem?_append_right (by rw [hl]; omega), hl, show (k + 1) * 4 + j - 4 = k * 4 + j by omega]
      exact ih k t j v (by simpa using hk) hj
theorem own_rd4 {w : World} {base n c : Nat} {A : Option Addr} {l : List Tok} (h : w.ownsRow base 33 4 (.slice A n c) n (tcells l)) (hn : n = l.length) : Rd4 w A (l.map gk) := by
  rcases Nat.eq_zero_or_pos n with h0 | h0
  · left
    rw [List.map_eq_nil_iff]
    exact List.eq_nil_of_length_eq_zero (by omega)
  · right
    obtain ⟨g, cap, hv, _, hlt⟩ := h.form h0
    have hA : A = some ⟨g, 0, none⟩ := by injection hv
    subst hA
    refine ⟨g, 0, rfl, fun k x hx => ?_⟩
    rw [List.getElem?_map] at hx
    cases hk : l[k]? with
    | none => rw [hk] at hx; cases hx
    | some t =>
      rw [hk] at hx
      have hx' : gk t = x := by simpa using hx
      subst hx'
      have hc := h.cells (g := g) rfl
      have key : ∀ j v, (tokCells t)[j]? = some v → w.cell? ⟨g, 0 + k * 4 + j, none⟩ = some v := fun j v hj => by
        have := hc (k * 4 + j) v (tcells_get l k t j v hk hj)
        rw [addr_add] at this
        rw [show 0 + k * 4 + j = 0 + (k * 4 + j) by omega]
        exact this
      exact ⟨key 0 _ rfl, key 1 _ rfl, key 2 _ rfl, key 3 _ rfl⟩
theorem own_there {w : World} {base n c g o : Nat} {xs : List Value} (h : w.ownsRow base 33 4 (.slice (some ⟨g, o, none⟩) n c) n xs) : o = 0 ∧ w.there g 0 (n * 4) := by
  rcases h.2 with ⟨h1, _⟩ | ⟨g', cap, cur, h1, _, hh, hnc, _, hsz, _⟩
  · injection h1 with h1; cases h1
  · injection h1 with h1 h2 h3
    injection h1 with h1
    injection h1 with h4 h5
    subst h4; subst h5; subst h3
    refine ⟨rfl, fun j hj => ⟨?_, Blk.frozen (show Blk w g 33 cur from hh) _⟩⟩
    rw [Blk.cell (show Blk w g 33 cur from hh)]
    have : j < cur.size := by rw [hsz]; have := Nat.mul_le_mul_right 4 hnc; omega
    rw [show 0 + j = j by omega, Array.getElem?_eq_getElem this]; rfl
theorem below_setCells {B b : Nat} (hb : B ≤ b) : ∀ (vs : List Value) (o : Nat) {a w : World}, Below B a w → Below B a (w.setCells b o vs)
  | [], _, _, _, h => h
  | v :: r, o, _, _, h => below_setCells hb r (o + 1) (h.setCell (p := ⟨b, o, none⟩) hb v)
theorem alike_same (A B : Option Addr) (ca cb n : Nat) (l : List Gk) (w : World) (ha : Rd4 w A l) (hb : Rd4 w B l) (hl : l.length = n) (hn : n ≤ 1000000) :
    Calls Tryd.prog 8 #[.slice A n ca, .slice B n cb] w fun e w' => e = .returned (.bool true) ∧ ∃ n, w' = w.drewN n :=
  (alike_any A B ca cb n l l w ha hb hl hl hn).mono fun e w' h => ⟨h.1.trans (congrArg (fun b => Ending.returned (.bool b)) (decide_eq_true rfl)), h.2⟩
theorem size_setCells (b : Nat) : ∀ (vs : List Value) (o : Nat) (w : World), w.heap.size ≤ (w.setCells b o vs).heap.size
  | [], _, _ => Nat.le_refl _
  | v :: r, o, w => Nat.le_trans (by simp [World.setCell]) (size_setCells b r (o + 1) (w.setCell ⟨b, o, none⟩ v))
theorem allN_len (s : List UInt8) : ∀ (n i : Nat) (l : List Tok), i ≤ s.length → (allN n s i l).1.length ≤ l.length + (s.length - i)
  | 0, i, l, _ => by unfold allN; show l.length ≤ _; omega
  | n + 1, i, l, hi => by
    unfold allN
    split
    · show l.length ≤ _; omega
    · rename_i c hc
      have hk : i < s.length := (List.getElem?_eq_some_iff.1 hc).1
      split
      · have := allN_len s n (i + 1) l (by omega); omega
      · split
        · have h1 := scan_ge notNl s (i + 1)
          have h2 := scan_le notNl s (i := i + 1) (by omega)
          have := allN_len s n (scan notNl s (i + 1)) l h2; omega
        · split
          · show 0 ≤ _; omega
          · rename_i t e ho
            have h1 := oneL_next hc ho
            have := allN_len s n e (l ++ [t]) h1.2
            rw [List.length_append] at this
            have h3 : ([t] : List Tok).length = 1 := rfl
            omega
theorem srcL_len (s : List UInt8) : (srcL s).1.length ≤ s.length := by
  unfold srcL
  split
  · show 0 ≤ _; omega
  · have := allN_len s s.length 0 [] (by omega)
    unfold allL
    simp at this
    omega

theorem all_long (st : ByteArray) (h : 16384 < st.size) (h2 : st.size ≤ maxLen) (w : World) :
    Calls Tryd.prog 9 #[.string st] w fun e w' => e = .returned (.tuple #[.slice none 0 0, .int .i64 0, .int .i64 2]) ∧ w' = w := by
  unfold maxLen at h2
  obtain ⟨n, hn⟩ : ∃ n, n = st.size := ⟨_, rfl⟩
  have hd : decide ((16384 : Int) < (st.size : Int)) = true := decide_eq_true (by omega)
  clear hn n
  go_enter Tryd.func9, Tryd.ntmps9
  go_wp2_with fail
  go_step3
  go_wp2_with fail
  rw [Exit.noGoto_ret]
  go_ret3
  exact ⟨rfl, rfl⟩

def wakeS : List UInt8 := [108, 101, 116, 32, 120, 61, 49]
theorem wake_src : srcL wakeS = ([⟨1, [108, 101, 116], 0, 0⟩, ⟨1, [120], 0, 4⟩, ⟨4, [61], 0, 5⟩, ⟨2, [], 1, 6⟩], 0, 0) := by decide +kernel

theorem wakes_any (w : World) : Calls Tryd.prog 5 #[] w fun e w' => e = .returned (.bool true) ∧ Below w.heap.size w w' := by
  go_enter Tryd.func5, Tryd.ntmps5
  go_wp2_with fail
  refine (all_any wakeS (by decide) w).mono ?_
  rintro e w1 ⟨A, c, rfl, ho, hb⟩
  rw [wake_src] at ho ⊢
  dsimp only at ho ⊢
  have hr := own_rd4 (n := 4) ho rfl
  obtain ⟨b, off, rfl, hc⟩ : ∃ b off, A = some ⟨b, off, none⟩ ∧ ∀ k g, (([⟨1, [108, 101, 116], 0, 0⟩, ⟨1, [120], 0, 4⟩, ⟨4, [61], 0, 5⟩, ⟨2, [], 1, 6⟩] : List Tok).map gk)[k]? = some g → At4 w1 b (off + k * 4) g := hr.resolve_left (by simp)
  obtain ⟨_, c21, _, _⟩ := hc 2 (gk ⟨4, [61], 0, 5⟩) rfl
  obtain ⟨_, _, c32, c33⟩ := hc 3 (gk ⟨2, [], 1, 6⟩) rfl
  have HB := Lib.hid hb
  clear hr hc ho hb
  unfold gk at c21 c32 c33
  dsimp only at c21 c32 c33
  go_wp2_with fail
  go_ret
  exact ⟨rfl, HB.out⟩
end Go.Proofs.YtlfkiaphmifelaaDoor
