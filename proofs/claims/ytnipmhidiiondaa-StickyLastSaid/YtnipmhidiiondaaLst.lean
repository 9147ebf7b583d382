/- Plain law of StickyLast: names by their last touch; how many unlike ones were touched behind a place. And what is told of a list of names that came in. -/
import Derived.SliceStrings
import Derived.Test.YtnipmhidiiondaaWid
namespace Go.Proofs.Ytnipmhidiiondaa
open Go.ChangeShapes Go.WideShapes Go.ChangeAt Go.RowKit Go.Maps


/-- Whether a name is in a list. -/
instance memDec (x : ByteArray) (l : List ByteArray) : Decidable (x ∈ l) := decidable_of_iff (l.any (fun y => decide (y = x)) = true) (by simp)
def no (x : ByteArray) (l : List ByteArray) : List ByteArray := l.filter fun y => decide (y ≠ x)
/-- The names, the one touched last first. -/
def rc (xs : List ByteArray) : List ByteArray := xs.foldl (fun acc x => x :: no x acc) []
/-- How many unlike names. -/
def dn (x : ByteArray) : List ByteArray → Nat × List ByteArray → Nat
  | [], s => s.1
  | y :: ys, s => dn x ys (s.1 + (if y ≠ x ∧ y ∉ s.2 then 1 else 0), s.2 ++ [y])
def dcnt (x : ByteArray) (ys : List ByteArray) : Nat := dn x ys (0, [])
theorem rc_snoc (xs : List ByteArray) (x : ByteArray) : rc (xs ++ [x]) = x :: no x (rc xs) := by unfold rc; rw [List.foldl_append]; rfl
theorem dn_snoc (x z : ByteArray) : ∀ (ys : List ByteArray) (s : Nat × List ByteArray), dn x (ys ++ [z]) s = dn x ys s + (if z ≠ x ∧ z ∉ s.2 ++ ys then 1 else 0)
  | [], s => by simp [dn]
  | y :: ys, s => by
    rw [List.cons_append]
    unfold dn
    rw [dn_snoc x z ys]
    simp
theorem dcnt_snoc (x z : ByteArray) (ys : List ByteArray) : dcnt x (ys ++ [z]) = dcnt x ys + (if z ≠ x ∧ z ∉ ys then 1 else 0) := by
  unfold dcnt; rw [dn_snoc]; rfl
theorem mem_no {x y : ByteArray} {l : List ByteArray} : y ∈ no x l ↔ y ∈ l ∧ y ≠ x := by unfold no; rw [List.mem_filter]; simp
theorem no_nodup {x : ByteArray} {l : List ByteArray} (h : l.Nodup) : (no x l).Nodup := h.sublist List.filter_sublist
theorem rc_nodup (xs : List ByteArray) : (rc xs).Nodup := by
  obtain ⟨n, hn⟩ : ∃ n, n = xs.length := ⟨_, rfl⟩
  induction n generalizing xs with
  | zero => rw [List.eq_nil_of_length_eq_zero hn.symm]; exact List.Pairwise.nil
  | succ n ih =>
    have hne : xs ≠ [] := by rintro rfl; simp at hn
    rw [← List.dropLast_concat_getLast hne, rc_snoc, List.nodup_cons]
    exact ⟨fun h => (mem_no.1 h).2 rfl, no_nodup (ih _ (by rw [List.length_dropLast]; omega))⟩
theorem mem_rc (xs : List ByteArray) : ∀ y, y ∈ rc xs ↔ y ∈ xs := by
  obtain ⟨n, hn⟩ : ∃ n, n = xs.length := ⟨_, rfl⟩
  induction n generalizing xs with
  | zero => rw [List.eq_nil_of_length_eq_zero hn.symm]; intro y; rfl
  | succ n ih =>
    have hne : xs ≠ [] := by rintro rfl; simp at hn
    intro y
    rw [← List.dropLast_concat_getLast hne, rc_snoc, List.mem_cons, mem_no, ih _ (by rw [List.length_dropLast]; omega), List.mem_append, List.mem_singleton]
    by_cases e : y = xs.getLast hne
    · simp [e]
    · simp [e]
theorem no_absent {x : ByteArray} {l : List ByteArray} (h : x ∉ l) : no x l = l := List.filter_eq_self.2 (fun y hy => decide_eq_true (fun e => h (e ▸ hy)))
theorem no_split {x : ByteArray} {A B : List ByteArray} (h : (A ++ x :: B).Nodup) : no x (A ++ x :: B) = A ++ B := by
  rw [List.nodup_append, List.nodup_cons] at h
  unfold no
  rw [List.filter_append, List.filter_cons_of_neg (by simp)]
  rw [show A.filter (fun y => decide (y ≠ x)) = A from no_absent (fun hx => h.2.2 x hx x (by simp) rfl), show B.filter (fun y => decide (y ≠ x)) = B from no_absent h.2.1.1]
/-- Behind its last touch as many unlike names were touched as stand ahead of it. -/
theorem rc_last (pre : List ByteArray) (x : ByteArray) : ∀ (ys : List ByteArray), x ∉ ys → ∃ A B, rc (pre ++ x :: ys) = A ++ x :: B ∧ A.length = dcnt x ys ∧ (∀ y, y ∈ A ↔ y ∈ ys) := by
  intro ys
  obtain ⟨n, hn⟩ : ∃ n, n = ys.length := ⟨_, rfl⟩
  induction n generalizing ys with
  | zero =>
    intro _
    rw [List.eq_nil_of_length_eq_zero hn.symm, rc_snoc]
    exact ⟨[], _, rfl, rfl, fun y => Iff.rfl⟩
  | succ n ih =>
    intro hx
    have hne : ys ≠ [] := by rintro rfl; simp at hn
    obtain ⟨zs, z, rfl⟩ : ∃ zs z, ys = zs ++ [z] := ⟨ys.dropLast, ys.getLast hne, (List.dropLast_concat_getLast hne).symm⟩
    rw [List.mem_append, List.mem_singleton, not_or] at hx
    obtain ⟨A, B, h1, h2, h3⟩ := ih zs (by simp at hn; omega) hx.1
    have hzx : z ≠ x := Ne.symm hx.2
    refine ⟨z :: no z A, no z B, ?_, ?_, fun y => ?_⟩
    · rw [show pre ++ x :: (zs ++ [z]) = (pre ++ x :: zs) ++ [z] by simp, rc_snoc, h1]
      unfold no
      rw [List.filter_append, List.filter_cons_of_pos (by simpa using hx.2)]; rfl
    · rw [dcnt_snoc, ← h2]
      by_cases hz : z ∈ zs
      · have hzA := (h3 z).2 hz
        have hnd := rc_nodup (pre ++ x :: zs)
        rw [h1] at hnd
        obtain ⟨A1, A2, rfl⟩ := List.append_of_mem hzA
        have hnA : (A1 ++ z :: A2).Nodup := (List.nodup_append.1 hnd).1
        rw [no_split hnA, if_neg (fun h => h.2 hz)]
        simp; omega
      · rw [no_absent (fun h => hz ((h3 z).1 h)), if_pos ⟨hzx, hz⟩]; rfl
    · rw [List.mem_cons, mem_no, h3, List.mem_append, List.mem_singleton]
      by_cases e : y = z
      · simp [e]
      · simp [e]
theorem take_yes {l : List ByteArray} {x : ByteArray} {R : Nat} (hnd : l.Nodup) (h : x ∈ l.take R) : no x (l.take R) = (no x l).take (R - 1) := by
  obtain ⟨A, B, rfl⟩ := List.append_of_mem (List.mem_of_mem_take h)
  have hA : A.length < R := by
    rcases Nat.lt_or_ge A.length R with hlt | hge
    · exact hlt
    · rw [List.take_append_of_le_length hge] at h
      rw [List.nodup_append] at hnd
      exact absurd rfl (hnd.2.2 x (List.mem_of_mem_take h) x (by simp))
  obtain ⟨k, hk⟩ : ∃ k, R = A.length + 1 + k := ⟨R - A.length - 1, by omega⟩
  have e1 : (A ++ x :: B).take R = A ++ x :: B.take k := by
    rw [hk, show A ++ x :: B = (A ++ [x]) ++ B by simp, List.take_append, List.take_of_length_le (by simp), show A.length + 1 + k - (A ++ [x]).length = k by simp]
    simp
  have hnd2 : (A ++ x :: B.take k).Nodup := by rw [← e1]; exact hnd.sublist (List.take_sublist _ _)
  rw [e1, no_split hnd2, no_split hnd, List.take_append, List.take_of_length_le (show A.length ≤ R - 1 by omega), show R - 1 - A.length = k by omega]
theorem take_no {l : List ByteArray} {x : ByteArray} {R : Nat} (hnd : l.Nodup) (hR : 1 ≤ R) (h : x ∉ l.take R) : (if (l.take R).length = R then (l.take R).dropLast else l.take R) = (no x l).take (R - 1) := by
  by_cases hx : x ∈ l
  · obtain ⟨A, B, rfl⟩ := List.append_of_mem hx
    have hA : R ≤ A.length := by
      rcases Nat.lt_or_ge A.length R with hlt | hge
      · exfalso; apply h
        rw [List.take_append, List.take_of_length_le (by omega)]
        obtain ⟨k, hk⟩ : ∃ k, R - A.length = k + 1 := ⟨R - A.length - 1, by omega⟩
        rw [hk]; simp
      · exact hge
    rw [List.take_append_of_le_length hA, no_split hnd, List.take_append_of_le_length (by omega), if_pos (by rw [List.length_take]; omega), List.dropLast_eq_take, List.length_take, List.take_take]
    congr 1; omega
  · rw [no_absent hx]
    split
    · rename_i hl
      rw [List.dropLast_eq_take, hl, List.take_take]
      congr 1; omega
    · rename_i hl
      rw [List.length_take] at hl
      rw [List.take_of_length_le (by omega), List.take_of_length_le (by omega)]
/-- The names that are there, step by step. -/
def touchL (R : Nat) (L : List ByteArray) (x : ByteArray) : List ByteArray := if x ∈ L then x :: no x L else if L.length = R then x :: L.dropLast else x :: L
theorem touch_rc (xs : List ByteArray) (x : ByteArray) {R : Nat} (hR : 1 ≤ R) : touchL R ((rc xs).take R) x = (rc (xs ++ [x])).take R := by
  rw [rc_snoc]
  obtain ⟨k, rfl⟩ : ∃ k, R = k + 1 := ⟨R - 1, by omega⟩
  rw [List.take_succ_cons]
  unfold touchL
  split
  · rename_i h; rw [take_yes (rc_nodup xs) h]; rfl
  · rename_i h
    have := take_no (rc_nodup xs) hR h
    rw [show k + 1 - 1 = k from rfl] at this
    rw [← this]
    split <;> rfl
/-- Is a name there? -/
theorem there_iff {pre ys : List ByteArray} {x : ByteArray} (hx : x ∉ ys) (R : Nat) : x ∈ (rc (pre ++ x :: ys)).take R ↔ dcnt x ys < R := by
  obtain ⟨A, B, h1, h2, h3⟩ := rc_last pre x ys hx
  rw [h1, ← h2]
  have hxA : x ∉ A := fun h => hx ((h3 x).1 h)
  constructor
  · intro h
    rcases Nat.lt_or_ge A.length R with hlt | hge
    · exact hlt
    · rw [List.take_append_of_le_length hge] at h
      exact absurd (List.mem_of_mem_take h) hxA
  · intro h
    rw [List.take_append, List.take_of_length_le (by omega)]
    obtain ⟨k, hk⟩ : ∃ k, R - A.length = k + 1 := ⟨R - A.length - 1, by omega⟩
    rw [hk]; simp
theorem not_there {xs : List ByteArray} {x : ByteArray} (hx : x ∉ xs) (R : Nat) : x ∉ (rc xs).take R := fun h => hx ((mem_rc xs x).1 (List.mem_of_mem_take h))

theorem lk_isSome (L : List Ent) (s : ByteArray) : (lk L s).isSome = decide (s ∈ L.map (·.1)) := by
  cases h : lk L s with
  | none =>
    refine (decide_eq_false (fun hm => ?_)).symm
    rw [List.mem_map] at hm
    obtain ⟨x, hx, e⟩ := hm
    exact lk_none_iff h x hx e
  | some v => exact (decide_eq_true (List.mem_map_of_mem (lk_mem h))).symm
theorem map_rm (L : List Ent) (s : ByteArray) : (rm L s).map (·.1) = no s (L.map (·.1)) := by
  unfold rm no
  rw [List.filter_map]; rfl
theorem map_step (R : Nat) (L : List Ent) (s : ByteArray) (v : Int) : (if (lk L s).isSome then getL L s else putL R (getL L s) s v).map (·.1) = touchL R (L.map (·.1)) s := by
  unfold touchL
  rw [lk_isSome]
  by_cases hm : s ∈ L.map (·.1)
  · rw [if_pos hm, if_pos (by simpa using hm)]
    have hl : (lk L s).isSome = true := by rw [lk_isSome]; exact decide_eq_true hm
    obtain ⟨u, hu⟩ := Option.isSome_iff_exists.1 hl
    unfold getL
    rw [hu]
    show ((s, u) :: rm L s).map (·.1) = _
    rw [List.map_cons, map_rm]
  · rw [if_neg hm, if_neg (by simpa using hm)]
    have hl : lk L s = none := by
      have : (lk L s).isSome = false := by rw [lk_isSome]; exact decide_eq_false hm
      cases h : lk L s with
      | none => rfl
      | some u => rw [h] at this; cases this
    unfold getL
    rw [hl]
    show (putL R L s v).map (·.1) = _
    unfold putL
    rw [hl]
    show (if L.length = R then (s, v) :: L.dropLast else (s, v) :: L).map (·.1) = _
    rw [List.length_map]
    split
    · rw [List.map_cons, List.map_dropLast]
    · rfl

theorem cells9 : Try.prog.cellsOf 9 = 1 := by kernel_rfl
theorem open_names {H : Type} {enc : TypeId × Value → H} {W : World} {base : Nat} {v0 : Value} {d0 : DataW H} {p0 : List MemPlace}
    (hval : Value.okWide Try.prog W .any base 35 v0) (h0 : DataW.Trod enc Try.prog W 0 (fun _ => true) true 35 v0 d0 p0) :
    ∃ (A : Option Addr) (l : List ByteArray) (c : Nat), v0 = .slice A l.length c ∧ (RdT W A l ∧ ∀ x, A = some x → 0 < l.length → x.block < W.heap.size) ∧ (l.length ≤ c ∧ c ≤ 9223372036854775807) ∧ ∀ s ∈ l, s.size ≤ maxLen := by
  obtain ⟨a0, len0, cap0, rfl⟩ := okWide_slice Try.underlying35 hval
  obtain ⟨fuel, hf⟩ := h0
  rcases open_strings Try.underlying35 Try.underlying9 cells9 hf with ⟨hcs, _⟩ | ⟨a, len, cap, ss, hcs, _, hl, hm, hlen, _, hc, hsz⟩
  · simp [Value.cells] at hcs
    obtain ⟨rfl, rfl, rfl⟩ := hcs
    exact ⟨none, [], 0, rfl, ⟨.inl rfl, fun x h => by cases h⟩, ⟨by simp, by simp⟩, by simp⟩
  · simp [Value.cells] at hcs
    obtain ⟨rfl, rfl, rfl⟩ := hcs
    have hls : len0 ≤ ss.length := by rw [hlen]; split <;> omega
    have hlt : (ss.take len0).length = len0 := by rw [List.length_take]; omega
    have hcell : ∀ k s, (ss.take len0)[k]? = some s → W.cell? (a.add k) = some (.string s) := fun k s hk => by
      have hk2 : k < len0 := by have := (List.getElem?_eq_some_iff.1 hk).1; omega
      have h1 := hc k (by omega)
      rw [List.getElem?_take_of_lt hk2] at hk
      have : ss.getD k ByteArray.empty = s := by simp [List.getD, hk]
      rw [this] at h1; exact h1
    refine ⟨some a, ss.take len0, cap0, by rw [hlt], ?_, ⟨by omega, by unfold maxLen at hm; exact hm⟩, fun s hs => hsz s (List.mem_of_mem_take hs)⟩
    rcases Nat.eq_zero_or_pos len0 with hz | hz
    · subst hz
      exact ⟨.inl (by simp), fun x _ h => by simp at h⟩
    · have h0 := hc 0 (by omega)
      obtain ⟨b, off, spot⟩ := a
      have hs : spot = none := by
        have := World.cell?_spot h0
        simpa [Addr.add] using this
      subst hs
      refine ⟨.inr ⟨b, off, rfl, fun k s hk => by have := hcell k s hk; rwa [addr_add] at this⟩, fun x hx _ => ?_⟩
      injection hx with hx
      subst hx
      have := World.block_lt_of_cell? W _ h0
      simpa [addr_add] using this
end Go.Proofs.Ytnipmhidiiondaa
