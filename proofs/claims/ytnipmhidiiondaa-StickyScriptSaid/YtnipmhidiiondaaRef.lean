/- The document's cache in memory: a struct, and a list of things that is never written. Contracts of May, find, Peek. -/
import Derived.StillTailTactics
import Derived.Outline
import Derived.Test.YtnipmhidiiondaaWid
namespace Go.Proofs.Ytnipmhidiiondaa
open Go.RowKit Go.Maps

def tcells (L : List Ent) : List Value := L.flatMap fun x => [.string x.1, .int .i64 x.2]
/-- A slice from which things read. -/
def RdE (w : World) (A : Option Addr) (L : List Ent) : Prop := L = [] ∨ ∃ b off, A = some ⟨b, off, none⟩ ∧ b < w.heap.size ∧ ∀ k x, L[k]? = some x → w.cell? ⟨b, off + k * 2, none⟩ = some (.string x.1) ∧ w.cell? ⟨b, off + k * 2 + 1, none⟩ = some (.int .i64 x.2)
abbrev rtop (A : Abs) (AL : Option Addr) (cap : Nat) : Array Value := #[.int .i64 (A.room : Nat), .slice AL A.L.length cap, .int .i64 (A.hits : Nat), .int .i64 (A.misses : Nat)]
structure RR (w : World) (g : Nat) (A : Abs) (AL : Option Addr) (cap : Nat) : Prop where
  top : Blk w g 45 (rtop A AL cap)
  rd : RdE w AL A.L
  cp : A.L.length ≤ cap ∧ cap ≤ 9223372036854775807
  ne : ∀ a, AL = some a → a.block ≠ g
  lt : ∀ a, AL = some a → a.block < w.heap.size
theorem tcells_length (L : List Ent) : (tcells L).length = L.length * 2 := by
  induction L with
  | nil => rfl
  | cons x l ih => unfold tcells at ih ⊢; rw [List.flatMap_cons, List.length_append, ih, List.length_cons]; simp; omega
theorem tcells_append (l m : List Ent) : tcells (l ++ m) = tcells l ++ tcells m := by unfold tcells; rw [List.flatMap_append]
theorem tcells_get {L : List Ent} {k : Nat} {x : Ent} (h : L[k]? = some x) : (tcells L)[k * 2]? = some (.string x.1) ∧ (tcells L)[k * 2 + 1]? = some (.int .i64 x.2) := by
  induction L generalizing k with
  | nil => cases h
  | cons y l ih =>
    cases k with
    | zero =>
      have : y = x := by simpa using h
      subst this
      exact ⟨rfl, rfl⟩
    | succ k =>
      have := ih (k := k) (by simpa using h)
      rw [show (k + 1) * 2 = k * 2 + 2 by omega, show k * 2 + 2 + 1 = k * 2 + 1 + 2 by omega]
      exact this
theorem tcells_of {L : List Ent} {j : Nat} {u : Value} (h : (tcells L)[j]? = some u) : ∃ k x, L[k]? = some x ∧ ((j = k * 2 ∧ u = .string x.1) ∨ (j = k * 2 + 1 ∧ u = .int .i64 x.2)) := by
  have hj : j < L.length * 2 := by rw [← tcells_length]; exact (List.getElem?_eq_some_iff.1 h).1
  obtain ⟨x, hx⟩ : ∃ x, L[j / 2]? = some x := ⟨_, List.getElem?_eq_getElem (by omega)⟩
  have hc := tcells_get hx
  rcases Nat.mod_two_eq_zero_or_one j with h0 | h0
  · refine ⟨j / 2, x, hx, .inl ⟨by omega, ?_⟩⟩
    rw [show j / 2 * 2 = j by omega, h] at hc
    exact Option.some.inj hc.1
  · refine ⟨j / 2, x, hx, .inr ⟨by omega, ?_⟩⟩
    rw [show j / 2 * 2 + 1 = j by omega, h] at hc
    exact Option.some.inj hc.2
section
variable {w w' : World} {A : Option Addr} {L : List Ent} {g : Nat}
theorem RdE.keep (h : RdE w A L) (hs : w.heap.size ≤ w'.heap.size) (hk : ∀ p : Addr, (∃ a, A = some a ∧ a.block = p.block) → p.block < w.heap.size → w'.cell? p = w.cell? p) : RdE w' A L := by
  rcases h with h | ⟨b, off, rfl, hlt, h⟩
  · exact .inl h
  · exact .inr ⟨b, off, rfl, Nat.lt_of_lt_of_le hlt hs, fun k x hx => ⟨(hk ⟨b, off + k * 2, none⟩ ⟨_, rfl, rfl⟩ hlt).trans (h k x hx).1, (hk ⟨b, off + k * 2 + 1, none⟩ ⟨_, rfl, rfl⟩ hlt).trans (h k x hx).2⟩⟩
theorem RdE.below (h : RdE w A L) (hb : Below w.heap.size w w') : RdE w' A L := h.keep hb.size fun _ _ hp => hb.cell hp
theorem RdE.reads (h : RdE w A L) : Reads w w.heap.size 2 A L.length (tcells L) := by
  refine ⟨tcells_length L, fun hn => ?_⟩
  rcases h with h | ⟨b, off, rfl, hlt, h⟩
  · subst h; simp at hn
  · refine ⟨_, rfl, hlt, fun j u hu => ?_⟩
    obtain ⟨k, x, hx, hj | hj⟩ := tcells_of hu
    · rw [hj.1, hj.2, addr_add]; exact (h k x hx).1
    · rw [hj.1, hj.2, addr_add, ← Nat.add_assoc]; exact (h k x hx).2
theorem RdE.take (h : RdE w A L) (n : Nat) : RdE w A (L.take n) := by
  rcases h with h | ⟨b, off, rfl, hlt, h⟩
  · exact .inl (by rw [h]; simp)
  · refine .inr ⟨b, off, rfl, hlt, fun k x hx => h k x ?_⟩
    rw [List.getElem?_take] at hx
    split at hx
    · exact hx
    · cases hx
theorem RdE.of_own {base n c : Nat} (h : w.ownsRow base 72 2 (.slice A n c) n (tcells L)) (hn : n = L.length) : RdE w A L ∧ (∀ a, A = some a → 0 < n → base ≤ a.block) := by
  rcases Nat.eq_zero_or_pos n with h0 | h0
  · exact ⟨.inl (List.eq_nil_of_length_eq_zero (by omega)), fun _ _ h => by omega⟩
  · obtain ⟨g, cap, hv, hb, hlt⟩ := h.form h0
    have hA : A = some ⟨g, 0, none⟩ := by injection hv
    subst hA
    refine ⟨.inr ⟨g, 0, rfl, hlt, fun k x hx => ?_⟩, fun a ha _ => by injection ha with ha; subst ha; exact hb⟩
    have hc := tcells_get hx
    have h1 := h.cells (g := g) rfl (k * 2) _ hc.1
    have h2 := h.cells (g := g) rfl (k * 2 + 1) _ hc.2
    rw [addr_add] at h1 h2
    exact ⟨h1, by rw [Nat.add_assoc]; exact h2⟩
end
theorem may_ref (r : Int) (w : World) : Calls Try.prog 15 #[.int .i64 r] w fun e w' => e = .returned (.bool (mayB r)) ∧ w' = w := by
  have HM : Hid (mayB r = (decide (1 ≤ r) && decide (r ≤ 4096))) := rfl
  by_cases h1 : 1 ≤ r
  · by_cases h2 : r ≤ 4096
    · go_enter Try.func15, Try.ntmps15
      go_wp2_with fail
      go_ret
      exact ⟨by rw [HM.out]; simp [h1, h2], rfl⟩
    · go_enter Try.func15, Try.ntmps15
      go_wp2_with fail
      go_ret
      exact ⟨by rw [HM.out]; simp [h1, h2], rfl⟩
  · go_enter Try.func15, Try.ntmps15
    go_wp2_with fail
    go_ret
    exact ⟨by rw [HM.out]; simp [h1]; omega, rfl⟩
/-- Where a name stands: nowhere, or at the only place. -/
def At (L : List Ent) (s : ByteArray) (z : Int) : Prop := (z = -1 ∧ lk L s = none) ∨ ∃ l v r, L = l ++ (s, v) :: r ∧ z = (l.length : Nat)
theorem lk_none_of {L : List Ent} {s : ByteArray} (h : ∀ x ∈ L, x.1 ≠ s) : lk L s = none := by
  unfold lk
  rw [Option.map_eq_none_iff, List.find?_eq_none]
  intro x hx
  simpa using h x hx
set_option maxHeartbeats 1000000 in

theorem find_ref (g : Nat) (A : Abs) (AL : Option Addr) (cap : Nat) (s : ByteArray) (w : World) (h : RR w g A AL cap) (hl : A.L.length ≤ 4096) :
    Calls Try.prog 42 #[.pointer (some ⟨g, 0, none⟩), .string s] w fun e w' => (∃ z, e = .returned (.int .i64 z) ∧ At A.L s z) ∧ w' = w := by
  obtain ⟨n, hn⟩ : ∃ n, n = A.L.length := ⟨_, rfl⟩
  have k1 : w.cell? ⟨g, 1, none⟩ = some (.slice AL n cap) := by rw [hn]; exact h.top.cell 1
  rw [← hn] at hl
  have HN := Lib.hid hn
  have HR := Lib.hid h.rd
  clear hn h
  go_enter Try.func42, Try.ntmps42
  go_wp2_with fail
  go_loopw [5] (fun s5 wr => ∃ i : Nat, s5 = .int .i64 i ∧ i ≤ n ∧ (∀ x ∈ A.L.take i, x.1 ≠ s) ∧ wr = w) (fun s5 _ => n - (intOf s5).toNat)
  case atStart => exact ⟨0, rfl, by omega, by simp, rfl⟩
  case round =>
    obtain ⟨i, rfl, hi, hno, hwr⟩ := hrel
    rw [hwr]
    clear hwr wr
    have HNO := Lib.hid hno
    clear hno
    by_cases hlt : i < n
    · obtain ⟨x, hx⟩ : ∃ x, A.L[i]? = some x := ⟨_, List.getElem?_eq_getElem (by rw [← HN.out]; exact hlt)⟩
      obtain ⟨b, o, rfl, hb, hat⟩ : ∃ b off, AL = some ⟨b, off, none⟩ ∧ b < w.heap.size ∧ ∀ k x, A.L[k]? = some x → w.cell? ⟨b, off + k * 2, none⟩ = some (.string x.1) ∧ w.cell? ⟨b, off + k * 2 + 1, none⟩ = some (.int .i64 x.2) := HR.out.resolve_left (fun h => by rw [h] at hx; cases hx)
      obtain ⟨c0, c1⟩ := hat i x hx
      obtain ⟨xs, xv⟩ := x
      dsimp only at c0 c1
      have HX := Lib.hid hx
      have hi0 : (0 : Int) ≤ (i : Int) := by omega
      have hin : (i : Int) < (n : Int) := by omega
      have hd : decide ((i : Int) < (n : Int)) = true := decide_eq_true hin
      clear hat hx hb
      cases he : (xs.toList == s.toList)
      · have HNE := Lib.hid (bytes_ne he)
        go_wp2_with fail
        go_roundw
        case rel => exact ⟨i + 1, by go_num, by omega, by
          intro y hy
          rw [List.take_add_one, HX.out] at hy
          rcases List.mem_append.1 hy with hy | hy
          · exact HNO.out y hy
          · have : y = (xs, xv) := by simpa using hy
            rw [this]; exact HNE.out, trivial⟩
        case measure => simp [intOf]; omega
      · have HEQ := Lib.hid (bytes_eq he)
        go_wp2_with fail
        go_ret
        refine ⟨⟨_, rfl, .inr ⟨A.L.take i, xv, A.L.drop (i + 1), ?_, ?_⟩⟩, rfl⟩
        · have hlt2 := (List.getElem?_eq_some_iff.1 HX.out).1
          have e := (List.getElem?_eq_some_iff.1 HX.out).2
          conv => lhs; rw [← List.take_append_drop i A.L, List.drop_eq_getElem_cons hlt2, e, HEQ.out]
        · rw [List.length_take, ← HN.out]; congr 1; omega
    · have hd : decide ((i : Int) < (n : Int)) = false := decide_eq_false (by omega)
      have HNN : Hid (lk A.L s = none) := by
        have h := HNO.out
        rw [List.take_of_length_le (by rw [← HN.out]; omega)] at h
        exact lk_none_of h
      go_wp2_with fail
      go_ret
      exact ⟨⟨_, rfl, .inl ⟨rfl, HNN.out⟩⟩, rfl⟩
end Go.Proofs.Ytnipmhidiiondaa
