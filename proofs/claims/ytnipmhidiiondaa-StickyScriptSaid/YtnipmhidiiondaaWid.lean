/- Plain law of two caches, one with more room; Put and Get as steps on lists; two caches in memory. -/
import Derived.Test.YtnipmhidiiondaaOpn
namespace Go.Proofs.Ytnipmhidiiondaa
open Go.RowKit Go.Maps

def putL (R : Nat) (L : List Ent) (s : ByteArray) (v : Int) : List Ent := if (lk L s).isSome then (s, v) :: rm L s else if L.length = R then (s, v) :: L.dropLast else (s, v) :: L
def getL (L : List Ent) (s : ByteArray) : List Ent := match lk L s with
  | some v => (s, v) :: rm L s
  | none => L
def goneL (R : Nat) (L : List Ent) (s : ByteArray) : ByteArray × Bool := if (lk L s).isSome then (⟨#[]⟩, false) else if L.length = R then ((L.getLast?.map (·.1)).getD ⟨#[]⟩, true) else (⟨#[]⟩, false)
def putA (A : Abs) (s : ByteArray) (v : Int) : Abs := { A with L := putL A.room A.L s v }
def getA (A : Abs) (s : ByteArray) : Abs := { A with L := getL A.L s, hits := if (lk A.L s).isSome then A.hits + 1 else A.hits, misses := if (lk A.L s).isSome then A.misses else A.misses + 1 }

theorem CRep.facts {w : World} {g : Nat} {A : Abs} {p : Pls} (h : CRep w g A p) : (A.L.map (·.1)).Nodup ∧ A.L.length ≤ A.room ∧ 1 ≤ A.room ∧ A.room ≤ 4096 := by
  obtain ⟨S, q, h⟩ := h
  have h1 := h.inv.fit
  rw [h.inv.m, h.room] at h1
  exact ⟨h.inv.nms, h1, by have := h.inv.room1; rw [h.room] at this; exact this, by have := h.inv.room2; rw [h.room] at this; exact this⟩
theorem put_any (g : Nat) (A : Abs) (p : Pls) (s : ByteArray) (v : Int) (w : World) (h : CRep w g A p) (hs : s.size ≤ maxLen) :
    Calls Try.prog 9 #[.pointer (some ⟨g, 0, none⟩), .string s, .int .i64 v] w fun e w' => e = .returned (.tuple #[.string (goneL A.room A.L s).1, .bool (goneL A.room A.L s).2]) ∧ KeepsA w g p (putA A s v) w' := by
  obtain ⟨_, h2, h3, _⟩ := h.facts
  cases hl : lk A.L s with
  | some u =>
    have e1 : putA A s v = { A with L := (s, v) :: rm A.L s } := by unfold putA putL; rw [hl]; rfl
    have e2 : goneL A.room A.L s = (⟨#[]⟩, false) := by unfold goneL; rw [hl]; rfl
    rw [e1, e2]
    exact put_same g A p s v u w h hs hl
  | none =>
    rcases Nat.lt_or_ge A.L.length A.room with hlt | hge
    · have e1 : putA A s v = { A with L := (s, v) :: A.L } := by unfold putA putL; rw [hl]; show { A with L := if A.L.length = A.room then _ else _ } = _; rw [if_neg (by omega)]
      have e2 : goneL A.room A.L s = (⟨#[]⟩, false) := by unfold goneL; rw [hl]; show (if A.L.length = A.room then _ else _) = _; rw [if_neg (by omega)]
      rw [e1, e2]
      exact put_less g A p s v w h hs hl hlt
    · have he : A.L.length = A.room := by omega
      obtain ⟨x, hx⟩ : ∃ x, A.L.getLast? = some x := by
        cases hL : A.L.getLast? with
        | some x => exact ⟨x, rfl⟩
        | none => rw [List.getLast?_eq_none_iff] at hL; rw [hL] at he; simp at he; omega
      have e1 : putA A s v = { A with L := (s, v) :: A.L.dropLast } := by unfold putA putL; rw [hl]; show { A with L := if A.L.length = A.room then _ else _ } = _; rw [if_pos he]
      have e2 : goneL A.room A.L s = (x.1, true) := by unfold goneL; rw [hl]; show (if A.L.length = A.room then _ else _) = _; rw [if_pos he, hx]; rfl
      rw [e1, e2]
      exact put_full g A p s v x w h hs hl he hx
theorem get_any (g : Nat) (A : Abs) (p : Pls) (s : ByteArray) (w : World) (h : CRep w g A p) (hs : s.size ≤ maxLen) (hh : A.hits ≤ 1000000) (hm : A.misses ≤ 1000000) :
    Calls Try.prog 10 #[.pointer (some ⟨g, 0, none⟩), .string s] w fun e w' => e = .returned (.tuple #[.int .i64 ((lk A.L s).getD 0), .bool (lk A.L s).isSome]) ∧ KeepsA w g p (getA A s) w' := by
  cases hl : lk A.L s with
  | some v =>
    have e1 : getA A s = { A with L := (s, v) :: rm A.L s, hits := A.hits + 1 } := by unfold getA getL; rw [hl]; rfl
    rw [e1]
    exact get_some g A p s v w h hs hh hl
  | none =>
    have e1 : getA A s = { A with misses := A.misses + 1 } := by unfold getA getL; rw [hl]; rfl
    rw [e1]
    exact get_none g A p s w h hs hm hl

/-! ### Lists -/
theorem lk_mem {L : List Ent} {s : ByteArray} {v : Int} (h : lk L s = some v) : (s, v) ∈ L := by
  unfold lk at h
  cases hf : L.find? fun x => decide (x.1 = s) with
  | none => rw [hf] at h; cases h
  | some x =>
    rw [hf] at h
    have h1 := List.mem_of_find?_eq_some hf
    have h2 : x.1 = s := by simpa using List.find?_some hf
    have h3 : x.2 = v := by simpa using h
    rw [← h2, ← h3]; exact h1
theorem lk_of_mem {L : List Ent} {s : ByteArray} {v : Int} (hnd : (L.map (·.1)).Nodup) (h : (s, v) ∈ L) : lk L s = some v := by
  obtain ⟨l, r, rfl⟩ := List.append_of_mem h
  exact lk_split hnd
theorem lk_none_iff {L : List Ent} {s : ByteArray} (h : lk L s = none) : ∀ x ∈ L, x.1 ≠ s := by
  intro x hx e
  unfold lk at h
  rw [Option.map_eq_none_iff, List.find?_eq_none] at h
  exact h x hx (by simpa using e)
theorem len_rm {L : List Ent} {s : ByteArray} {v : Int} (hnd : (L.map (·.1)).Nodup) (h : lk L s = some v) : (rm L s).length + 1 = L.length := by
  obtain ⟨l, r, rfl⟩ := List.append_of_mem (lk_mem h)
  rw [show s = ((s, v) : Ent).1 from rfl, rm_split hnd]
  simp; omega
theorem dropLast_sub {α : Type} : ∀ {a b : List α}, a.Sublist b → a.dropLast.Sublist b.dropLast
  | [], b, _ => List.nil_sublist _
  | x :: a, [], h => by cases h
  | [x], y :: b, h => List.nil_sublist _
  | x :: x2 :: a, [y], h => by
    have := h.length_le
    simp at this
  | x :: x2 :: a, y :: y2 :: b, h => by
    cases h with
    | cons _ h => exact (dropLast_sub h).trans (by simp)
    | cons_cons _ h => exact (dropLast_sub h).cons_cons _

/-- What the two caches hold: all that the smaller has the wider has too, in the same order; while the smaller has room left, they hold the same. -/
def WI (R : Nat) (Lc Ld : List Ent) : Prop := Lc.Sublist Ld ∧ (Lc.length < R → Lc = Ld)
section
variable {R M : Nat} {Lc Ld : List Ent} {s : ByteArray}
theorem WI.get (h : WI R Lc Ld) (hc : (Lc.map (·.1)).Nodup) (hd : (Ld.map (·.1)).Nodup) : WI R (getL Lc s) (getL Ld s) ∧ ∀ v, lk Lc s = some v → lk Ld s = some v := by
  have key : ∀ v, lk Lc s = some v → lk Ld s = some v := fun v hv => lk_of_mem hd (h.1.mem (lk_mem hv))
  refine ⟨?_, key⟩
  cases hl : lk Lc s with
  | some v =>
    have hl2 := key v hl
    unfold getL
    rw [hl, hl2]
    refine ⟨(h.1.filter _).cons_cons _, fun hlt => ?_⟩
    have := len_rm hc hl
    rw [h.2 (by simp at hlt; omega)]
  | none =>
    unfold getL
    rw [hl]
    cases hl2 : lk Ld s with
    | none => exact h
    | some v =>
      refine ⟨?_, fun hlt => ?_⟩
      · have h1 := h.1.filter (fun x => decide (x.1 ≠ s))
        have h2 : rm Lc s = Lc := rm_none (lk_none_iff hl)
        unfold rm at h2
        rw [h2] at h1
        exact h1.trans (List.sublist_cons_self _ _)
      · rw [h.2 hlt, hl2] at hl; cases hl
theorem WI.put (h : WI R Lc Ld) (v : Int) (hc : (Lc.map (·.1)).Nodup) (hd : (Ld.map (·.1)).Nodup) (hRM : R ≤ M) (hlc : Lc.length ≤ R) : WI R (putL R Lc s v) (putL M Ld s v) := by
  have key : ∀ v, lk Lc s = some v → lk Ld s = some v := fun v hv => lk_of_mem hd (h.1.mem (lk_mem hv))
  cases hl : lk Lc s with
  | some u =>
    have hl2 := key u hl
    unfold putL
    rw [hl, hl2]
    show WI R ((s, v) :: rm Lc s) ((s, v) :: rm Ld s)
    refine ⟨(h.1.filter _).cons_cons _, fun hlt => ?_⟩
    have := len_rm hc hl
    have hlt' : ((s, v) :: rm Lc s).length < R := hlt
    rw [h.2 (by simp at hlt'; omega)]
  | none =>
    have h2 : rm Lc s = Lc := rm_none (lk_none_iff hl)
    have h1 := h.1.filter (fun x => decide (x.1 ≠ s))
    unfold rm at h2
    rw [h2] at h1
    cases hl2 : lk Ld s with
    | some u =>
      have hfull : Lc.length = R := by
        rcases Nat.lt_or_ge Lc.length R with hlt | hge
        · rw [h.2 hlt, hl2] at hl; cases hl
        · omega
      unfold putL
      rw [hl, hl2]
      show WI R (if Lc.length = R then _ else _) ((s, v) :: rm Ld s)
      rw [if_pos hfull]
      refine ⟨((List.dropLast_sublist _).trans h1).cons_cons _, fun hlt => ?_⟩
      simp at hlt; omega
    | none =>
      unfold putL
      rw [hl, hl2]
      show WI R (if Lc.length = R then _ else _) (if Ld.length = M then _ else _)
      rcases Nat.lt_or_ge Lc.length R with hlt | hge
      · have he := h.2 hlt
        rw [if_neg (by omega), if_neg (by rw [← he]; omega), he]
        exact ⟨List.Sublist.refl _, fun _ => rfl⟩
      · have hfull : Lc.length = R := by omega
        rw [if_pos hfull]
        have hne : ∀ (x : Ent), ¬ ((s, v) :: Lc.dropLast).length < R := fun _ hlt => by simp at hlt; omega
        split
        · refine ⟨(dropLast_sub h.1).cons_cons _, fun hlt => ?_⟩
          simp at hlt; omega
        · refine ⟨((List.dropLast_sublist _).trans h.1).cons_cons _, fun hlt => ?_⟩
          simp at hlt; omega
end

/-! ### Two caches in memory -/
structure Two (w : World) (B gc : Nat) (Ac : Abs) (gd : Nat) (Ad : Abs) (pc pd : Pls) (w' : World) : Prop where
  c : CRep w' gc Ac pc
  d : CRep w' gd Ad pd
  apart : ∀ b, Own gc pc b → ¬ Own gd pd b
  oc : ∀ b, Own gc pc b → B ≤ b
  od : ∀ b, Own gd pd b → B ≤ b
  bel : Below B w w'
  le : B ≤ w'.heap.size
section
variable {w w1 w2 : World} {B gc gd : Nat} {Ac Ad A' : Abs} {pc pd : Pls}
theorem Two.left (h : Two w B gc Ac gd Ad pc pd w1) (k : KeepsA w1 gc pc A' w2) : ∃ pc', Two w B gc A' gd Ad pc' pd w2 := by
  obtain ⟨p', k1, k2, k3⟩ := k
  refine ⟨p', k1, h.d.chg k2 (fun b hb e => h.apart b e hb), fun b hb hb2 => ?_, fun b hb => ?_, h.od, Chg.below h.bel k2 h.le h.oc, Nat.le_trans h.le k2.size⟩
  · rcases k3 b hb with h1 | h1
    · exact h.apart b h1 hb2
    · have := h.d.lt b hb2; omega
  · exact (k3 b hb).elim (h.oc b) (fun h1 => Nat.le_trans h.le h1)
theorem Two.right (h : Two w B gc Ac gd Ad pc pd w1) (k : KeepsA w1 gd pd A' w2) : ∃ pd', Two w B gc Ac gd A' pc pd' w2 := by
  obtain ⟨p', k1, k2, k3⟩ := k
  refine ⟨p', h.c.chg k2 (fun b hb e => h.apart b hb e), k1, fun b hb hb2 => ?_, h.oc, fun b hb => ?_, Chg.below h.bel k2 h.le h.od, Nat.le_trans h.le k2.size⟩
  · rcases k3 b hb2 with h1 | h1
    · exact h.apart b hb h1
    · have := h.c.lt b hb; omega
  · exact (k3 b hb).elim (h.od b) (fun h1 => Nat.le_trans h.le h1)
theorem Two.below (h : Two w B gc Ac gd Ad pc pd w1) (hb : Below w1.heap.size w1 w2) : Two w B gc Ac gd Ad pc pd w2 :=
  ⟨h.c.below hb, h.d.below hb, h.apart, h.oc, h.od, h.bel.trans (hb.mono h.le), Nat.le_trans h.le hb.size⟩
end
end Go.Proofs.Ytnipmhidiiondaa
