/- Plain law: the cells in a ring are a list of names with values, the one touched last first. No walk. -/
import Derived.Test.YtnipmhidiiondaaOut
namespace Go.Proofs.Ytnipmhidiiondaa
open Go.RowKit

abbrev Ent := ByteArray × Int
def ent (cs : List Cel) (i : Nat) : Ent := (nm cs i, vl cs i)
structure InvP (S : Sta) (L : List Ent) (p : List Nat) : Prop where
  ring : Ring S.cs p
  nd : (0 :: (p ++ S.fl)).Nodup
  lt : ∀ i ∈ 0 :: (p ++ S.fl), i < S.cs.length
  all : S.cs.length = p.length + S.fl.length + 1
  lst : L = p.map (ent S.cs)
  fnd : ∀ s i, S.f s = some i ↔ i ∈ p ∧ nm S.cs i = s
  nms : (L.map (·.1)).Nodup
  sz : ∀ x ∈ L, x.1.size ≤ maxLen
  m : S.m = L.length
  fit : S.m ≤ S.room
  room1 : 1 ≤ S.room
  room2 : S.room ≤ 4096
  few : S.cs.length ≤ 4097
def lk (L : List Ent) (s : ByteArray) : Option Int := (L.find? fun x => decide (x.1 = s)).map (·.2)
def rm (L : List Ent) (s : ByteArray) : List Ent := L.filter fun x => decide (x.1 ≠ s)

section
variable {cs : List Cel} {i : Nat}
theorem len_cutC : (cutC cs i).length = cs.length := by unfold cutC; rw [len_setA, len_setN]
theorem len_firstC : (firstC cs i).length = cs.length := by unfold firstC; rw [len_setN, len_setA, len_setN, len_setA]
theorem cut_links (ha : ah cs i < cs.length) (hn : nx cs i < cs.length) : (∀ j, nx (cutC cs i) j = if j = ah cs i then nx cs i else nx cs j) ∧ (∀ j, ah (cutC cs i) j = if j = nx cs i then ah cs i else ah cs j) ∧ (∀ j, nm (cutC cs i) j = nm cs j) ∧ (∀ j, vl (cutC cs i) j = vl cs j) := by
  have hn' : nx cs i < (setN cs (ah cs i) (nx cs i)).length := by rw [len_setN]; exact hn
  unfold cutC
  refine ⟨fun j => ?_, fun j => ?_, fun j => ?_, fun j => ?_⟩
  · rw [nx_setA hn', nx_setN ha]
  · rw [ah_setA hn', ah_setN ha]
  · rw [nm_setA hn', nm_setN ha]
  · rw [vl_setA hn', vl_setN ha]
theorem first_links (hi : i < cs.length) (hn : nx cs 0 < cs.length) (h0 : i ≠ 0) (hni : nx cs 0 ≠ i) : (∀ j, nx (firstC cs i) j = if j = 0 then i else if j = i then nx cs 0 else nx cs j) ∧ (∀ j, ah (firstC cs i) j = if j = nx cs 0 then i else if j = i then 0 else ah cs j) ∧ (∀ j, nm (firstC cs i) j = nm cs j) ∧ (∀ j, vl (firstC cs i) j = vl cs j) := by
  have a1 : i < (setA cs i 0).length := by rw [len_setA]; exact hi
  have a2 : nx cs 0 < (setN (setA cs i 0) i (nx cs 0)).length := by rw [len_setN, len_setA]; exact hn
  have a3 : 0 < (setA (setN (setA cs i 0) i (nx cs 0)) (nx cs 0) i).length := by rw [len_setA, len_setN, len_setA]; omega
  unfold firstC
  refine ⟨fun j => ?_, fun j => ?_, fun j => ?_, fun j => ?_⟩
  · rw [nx_setN a3, nx_setA a2, nx_setN a1, nx_setA hi]
  · rw [ah_setN a3, ah_setA a2, ah_setN a1, ah_setA hi]
  · rw [nm_setN a3, nm_setA a2, nm_setN a1, nm_setA hi]
  · rw [vl_setN a3, vl_setA a2, vl_setN a1, vl_setA hi]
end

theorem ring_congr {cs cs' : List Cel} {p : List Nat} (h : Ring cs p) (hn : ∀ x ∈ 0 :: p, nx cs' x = nx cs x) (ha : ∀ y ∈ 0 :: p, ah cs' y = ah cs y) : Ring cs' p := by
  unfold Ring at h ⊢
  refine h.congr (fun x hx => hn x ?_) (fun y hy => ha y ?_)
  · rw [← List.cons_append, List.dropLast_concat] at hx; exact hx
  · rw [List.tail_cons, List.mem_append, List.mem_singleton] at hy
    rcases hy with hy | rfl
    · simp [hy]
    · simp

theorem rm_split {l r : List Ent} {x : Ent} (hnd : ((l ++ x :: r).map (·.1)).Nodup) : rm (l ++ x :: r) x.1 = l ++ r := by
  rw [List.map_append, List.map_cons, List.nodup_append] at hnd
  obtain ⟨_, h2, h3⟩ := hnd
  rw [List.nodup_cons] at h2
  unfold rm
  rw [List.filter_append, List.filter_cons_of_neg (by simp), List.filter_eq_self.2 (fun y hy => ?_), List.filter_eq_self.2 (fun y hy => ?_)]
  · exact decide_eq_true (fun e => h2.1 (by rw [← e]; exact List.mem_map_of_mem hy))
  · exact decide_eq_true (fun e => h3 y.1 (List.mem_map_of_mem hy) x.1 (by simp) e)
theorem lk_split {l r : List Ent} {x : Ent} (hnd : ((l ++ x :: r).map (·.1)).Nodup) : lk (l ++ x :: r) x.1 = some x.2 := by
  rw [List.map_append, List.map_cons, List.nodup_append] at hnd
  obtain ⟨_, h2, h3⟩ := hnd
  unfold lk
  rw [List.find?_append, List.find?_eq_none.2 (fun y hy => by simpa using fun e => h3 y.1 (List.mem_map_of_mem hy) x.1 (by simp) e)]
  simp
theorem lk_none {L : List Ent} {s : ByteArray} (h : ∀ x ∈ L, x.1 ≠ s) : lk L s = none := by
  unfold lk
  rw [List.find?_eq_none.2 (fun y hy => by simpa using h y hy)]; rfl

section
variable {S : Sta} {L : List Ent} {p : List Nat}
theorem InvP.absent (h : InvP S L p) {s : ByteArray} (hf : S.f s = none) : ∀ x ∈ L, x.1 ≠ s := by
  intro x hx e
  rw [h.lst, List.mem_map] at hx
  obtain ⟨i, hi, rfl⟩ := hx
  have := (h.fnd s i).2 ⟨hi, e⟩
  rw [hf] at this; cases this
theorem InvP.lookup (h : InvP S L p) (s : ByteArray) : lk L s = (S.f s).map (vl S.cs) := by
  cases hf : S.f s with
  | none => exact lk_none (h.absent hf)
  | some i =>
    obtain ⟨hi, hs⟩ := (h.fnd s i).1 hf
    obtain ⟨l, r, rfl⟩ := List.append_of_mem hi
    have hl := h.lst
    rw [List.map_append, List.map_cons] at hl
    have hn := h.nms
    rw [hl] at hn
    have := lk_split hn
    rw [hl]
    show lk _ s = some (vl S.cs i)
    rw [← hs]; exact this
/-- What the contracts of the ring's steps ask. -/
theorem InvP.places (h : InvP S L p) {i : Nat} (hi : i ∈ p) : i < S.cs.length ∧ ah S.cs i < S.cs.length ∧ nx S.cs i < S.cs.length ∧ nx (cutC S.cs i) 0 < S.cs.length ∧ (nm S.cs i).size ≤ maxLen ∧ i ≠ 0 := by
  obtain ⟨l, r, rfl⟩ := List.append_of_mem hi
  have hnd : (0 :: (l ++ i :: r)).Nodup := h.nd.sublist (by simp)
  obtain ⟨h1, h2, h3⟩ := ring_cut h.ring hnd
  have key : ∀ x, (x = 0 ∨ x ∈ l ∨ x ∈ r) → x < S.cs.length := fun x hx => h.lt x (by
    rcases hx with rfl | hx | hx <;> simp [*])
  have ha : ah S.cs i < S.cs.length := key _ (h1.imp id .inl)
  have hn : nx S.cs i < S.cs.length := key _ (h2.imp id .inr)
  obtain ⟨c1, c2, _, _⟩ := cut_links ha hn
  have hr := h3 _ c1 c2
  refine ⟨h.lt i (by simp), ha, hn, ?_, ?_, ?_⟩
  · cases hlr : l ++ r with
    | nil => rw [hlr] at hr; rw [(ring_nil hr).1]; exact key 0 (.inl rfl)
    | cons b q =>
      rw [hlr] at hr
      rw [ring_head hr]
      have hb : b ∈ l ++ r := by rw [hlr]; simp
      rw [List.mem_append] at hb
      exact key b (.inr hb)
  · have := h.sz (ent S.cs i) (by rw [h.lst]; exact List.mem_map_of_mem hi)
    exact this
  · rintro rfl
    rw [List.nodup_cons] at hnd
    exact hnd.1 (by simp)
/-- A thing is touched. -/
theorem InvP.touch (h : InvP S L p) {s : ByteArray} {i : Nat} (hf : S.f s = some i) : ∃ p', InvP { S with cs := firstC (cutC S.cs i) i } ((s, vl S.cs i) :: rm L s) p' := by
  obtain ⟨hi, hs⟩ := (h.fnd s i).1 hf
  obtain ⟨q1, q2, q3, q4, q5, q6⟩ := h.places hi
  obtain ⟨l, r, rfl⟩ := List.append_of_mem hi
  have hnd : (0 :: (l ++ i :: r)).Nodup := h.nd.sublist (by simp)
  obtain ⟨_, _, h3⟩ := ring_cut h.ring hnd
  obtain ⟨c1, c2, c3, c4⟩ := cut_links q2 q3
  have hr := h3 _ c1 c2
  have hlr : i ∉ l ++ r := by
    rw [List.nodup_cons, List.nodup_append, List.nodup_cons] at hnd
    intro hx
    rw [List.mem_append] at hx
    rcases hx with hx | hx
    · exact hnd.2.2.2 i hx i (by simp) rfl
    · exact hnd.2.2.1.1 hx
  have hnd0 : (0 :: (l ++ r)).Nodup := hnd.sublist (by simp)
  have hni : nx (cutC S.cs i) 0 ≠ i := by
    cases hq : l ++ r with
    | nil => rw [hq] at hr; rw [(ring_nil hr).1]; exact Ne.symm q6
    | cons b q => rw [hq] at hr; rw [ring_head hr]; rintro rfl; exact hlr (by rw [hq]; simp)
  obtain ⟨d1, d2, d3, d4⟩ := first_links (cs := cutC S.cs i) (i := i) (by rw [len_cutC]; exact q1) (by rw [len_cutC]; exact q4) q6 hni
  have hl := h.lst
  rw [List.map_append, List.map_cons] at hl
  have hnm := h.nms
  have hrm : rm L s = l.map (ent S.cs) ++ r.map (ent S.cs) := by
    rw [hl] at hnm ⊢
    rw [← hs]; exact rm_split (x := ent S.cs i) hnm
  have he : ∀ j, ent (firstC (cutC S.cs i) i) j = ent S.cs j := fun j => by unfold ent; rw [d3, d4, c3, c4]
  have hperm : (i :: (l ++ r) ++ S.fl).Perm (l ++ i :: r ++ S.fl) := (List.perm_middle.symm).append_right _
  refine ⟨i :: (l ++ r), ?_, ?_, ?_, ?_, ?_, ?_, ?_, ?_, ?_, h.fit, h.room1, h.room2, ?_⟩
  · exact ring_first hr hlr q6 hnd0 d1 d2
  · exact ((hperm.cons 0).nodup_iff).2 h.nd
  · intro j hj
    show j < (firstC (cutC S.cs i) i).length
    rw [len_firstC, len_cutC]
    exact h.lt j ((hperm.cons 0).mem_iff.1 hj)
  · show (firstC (cutC S.cs i) i).length = _
    rw [len_firstC, len_cutC, h.all]; simp; omega
  · rw [hrm, List.map_cons, List.map_append]
    simp only [List.map_congr_left (fun j _ => he j), he]
    rw [show (s, vl S.cs i) = ent S.cs i from by rw [← hs]; rfl]
  · intro t j
    show S.f t = some j ↔ j ∈ i :: (l ++ r) ∧ nm (firstC (cutC S.cs i) i) j = t
    rw [d3, c3, h.fnd, List.perm_middle.symm.mem_iff]
  · have : ((s, vl S.cs i) :: rm L s).Perm L := by
      rw [hrm, hl, show (s, vl S.cs i) = ent S.cs i from by rw [← hs]; rfl]; exact List.perm_middle.symm
    exact (this.map _).nodup_iff.2 hnm
  · have : ((s, vl S.cs i) :: rm L s).Perm L := by
      rw [hrm, hl, show (s, vl S.cs i) = ent S.cs i from by rw [← hs]; rfl]; exact List.perm_middle.symm
    exact fun x hx => h.sz x (this.mem_iff.1 hx)
  · have : ((s, vl S.cs i) :: rm L s).Perm L := by
      rw [hrm, hl, show (s, vl S.cs i) = ent S.cs i from by rw [← hs]; rfl]; exact List.perm_middle.symm
    show S.m = _
    rw [this.length_eq]; exact h.m
  · show (firstC (cutC S.cs i) i).length ≤ _
    rw [len_firstC, len_cutC]; exact h.few
/-- A thing goes. -/
theorem InvP.out (h : InvP S L p) {i : Nat} (hi : i ∈ p) : ∃ p', InvP (outS S i) (rm L (nm S.cs i)) p' := by
  obtain ⟨q1, q2, q3, q4, q5, q6⟩ := h.places hi
  have hf : S.f (nm S.cs i) = some i := (h.fnd _ i).2 ⟨hi, rfl⟩
  obtain ⟨l, r, rfl⟩ := List.append_of_mem hi
  have hnd : (0 :: (l ++ i :: r)).Nodup := h.nd.sublist (by simp)
  obtain ⟨_, _, h3⟩ := ring_cut h.ring hnd
  obtain ⟨c1, c2, c3, c4⟩ := cut_links q2 q3
  have hr := h3 _ c1 c2
  have hlr : i ∉ l ++ r := by
    rw [List.nodup_cons, List.nodup_append, List.nodup_cons] at hnd
    intro hx
    rw [List.mem_append] at hx
    rcases hx with hx | hx
    · exact hnd.2.2.2 i hx i (by simp) rfl
    · exact hnd.2.2.1.1 hx
  have hic : i < (cutC S.cs i).length := by rw [len_cutC]; exact q1
  have hl := h.lst
  rw [List.map_append, List.map_cons] at hl
  have hnm := h.nms
  have hrm : rm L (nm S.cs i) = l.map (ent S.cs) ++ r.map (ent S.cs) := by
    rw [hl] at hnm ⊢
    exact rm_split (x := ent S.cs i) hnm
  have hsub : (rm L (nm S.cs i)).Sublist L := List.filter_sublist
  have he : ∀ j ∈ l ++ r, ent ((cutC S.cs i).set i Cel.zero) j = ent S.cs j := fun j hj => by
    have hji : j ≠ i := fun e => hlr (e ▸ hj)
    unfold ent; rw [nm_set _ hic, vl_set _ hic, if_neg hji, if_neg hji, c3, c4]
  have hperm : ((l ++ r) ++ (S.fl ++ [i])).Perm (l ++ i :: r ++ S.fl) := by
    have h1 : ((l ++ r) ++ (S.fl ++ [i])).Perm (i :: ((l ++ r) ++ S.fl)) := by rw [← List.append_assoc]; exact List.perm_append_comm
    exact h1.trans ((List.perm_middle.symm).append_right S.fl)
  have hlen : (rm L (nm S.cs i)).length + 1 = L.length := by rw [hrm, hl]; simp; omega
  have hm : (outS S i).m = (rm L (nm S.cs i)).length := by
    show (if (S.f (nm S.cs i)).isSome then S.m - 1 else S.m) = _
    rw [hf]; show S.m - 1 = _; rw [h.m]; omega
  have hl2 : (outS S i).cs.length = S.cs.length := by show ((cutC S.cs i).set i Cel.zero).length = _; rw [List.length_set, len_cutC]
  refine ⟨l ++ r, ?_, ?_, ?_, ?_, ?_, ?_, ?_, ?_, hm, ?_, h.room1, h.room2, ?_⟩
  · refine ring_congr hr (fun x hx => ?_) (fun x hx => ?_)
    · have hxi : x ≠ i := by
        rw [List.mem_cons] at hx
        rcases hx with rfl | hx
        · exact Ne.symm q6
        · exact fun e => hlr (e ▸ hx)
      exact (nx_set _ hic x).trans (if_neg hxi)
    · have hxi : x ≠ i := by
        rw [List.mem_cons] at hx
        rcases hx with rfl | hx
        · exact Ne.symm q6
        · exact fun e => hlr (e ▸ hx)
      exact (ah_set _ hic x).trans (if_neg hxi)
  · exact ((hperm.cons 0).nodup_iff).2 h.nd
  · intro j hj
    rw [hl2]
    exact h.lt j ((hperm.cons 0).mem_iff.1 hj)
  · rw [hl2, h.all]; show _ = (l ++ r).length + (S.fl ++ [i]).length + 1; simp; omega
  · rw [hrm, ← List.map_append]
    exact (List.map_congr_left he).symm
  · intro t j
    show fdel S.f (nm S.cs i) t = some j ↔ j ∈ l ++ r ∧ nm ((cutC S.cs i).set i Cel.zero) j = t
    unfold fdel
    by_cases ht : t = nm S.cs i
    · rw [if_pos ht]
      refine ⟨fun h => by (cases h), fun ⟨hj, hj2⟩ => ?_⟩
      exfalso
      have hji : j ≠ i := fun e => hlr (e ▸ hj)
      rw [nm_set _ hic, if_neg hji, c3, ht] at hj2
      have h1 := (h.fnd (nm S.cs i) j).2 ⟨by rw [List.mem_append] at hj ⊢; rcases hj with hj | hj <;> simp [hj], hj2⟩
      rw [hf] at h1; injection h1 with h1; exact hji h1.symm
    · rw [if_neg ht, h.fnd]
      constructor
      · rintro ⟨hj, hj2⟩
        have hji : j ≠ i := by rintro rfl; exact ht hj2.symm
        refine ⟨?_, by rw [nm_set _ hic, if_neg hji, c3]; exact hj2⟩
        rw [List.mem_append, List.mem_cons] at hj
        rw [List.mem_append]
        rcases hj with hj | hj | hj
        · exact .inl hj
        · exact absurd hj hji
        · exact .inr hj
      · rintro ⟨hj, hj2⟩
        have hji : j ≠ i := fun e => hlr (e ▸ hj)
        rw [nm_set _ hic, if_neg hji, c3] at hj2
        refine ⟨?_, hj2⟩
        rw [List.mem_append] at hj ⊢
        rcases hj with hj | hj <;> simp [hj]
  · exact hnm.sublist (hsub.map _)
  · exact fun x hx => h.sz x (hsub.mem hx)
  · rw [hm]; show _ ≤ S.room
    have := h.fit; have := h.m; omega
  · rw [hl2]; exact h.few
/-- The eldest. -/
theorem InvP.last (h : InvP S L p) (hL : L ≠ []) : ∃ i, i ∈ p ∧ ah S.cs 0 = i ∧ rm L (nm S.cs i) = L.dropLast ∧ L.getLast? = some (ent S.cs i) := by
  have hp : p ≠ [] := by rintro rfl; exact hL (by rw [h.lst]; rfl)
  obtain ⟨q, i, rfl⟩ : ∃ q i, p = q ++ [i] := ⟨p.dropLast, p.getLast hp, (List.dropLast_concat_getLast hp).symm⟩
  refine ⟨i, by simp, ring_last h.ring, ?_, ?_⟩
  · have hl := h.lst
    have hnm := h.nms
    rw [List.map_append] at hl
    rw [hl] at hnm ⊢
    have := rm_split (l := q.map (ent S.cs)) (r := []) (x := ent S.cs i) hnm
    rw [List.append_nil] at this
    rw [show [i].map (ent S.cs) = [ent S.cs i] from rfl, List.dropLast_concat]
    exact this
  · rw [h.lst, List.map_append]; simp
end
end Go.Proofs.Ytnipmhidiiondaa
