/- Plain law: a thing is added to the ring. No walk. -/
import Derived.Test.YtnipmhidiiondaaInv
namespace Go.Proofs.Ytnipmhidiiondaa
open Go.RowKit

theorem nx_setM {cs : List Cel} {i : Nat} {s : ByteArray} (h : i < cs.length) (j : Nat) : nx (setM cs i s) j = nx cs j := by
  unfold nx setM
  by_cases e : j = i
  · subst e; rw [getD_set_eq h]
  · rw [getD_set_ne (Ne.symm e)]
theorem ah_setM {cs : List Cel} {i : Nat} {s : ByteArray} (h : i < cs.length) (j : Nat) : ah (setM cs i s) j = ah cs j := by
  unfold ah setM
  by_cases e : j = i
  · subst e; rw [getD_set_eq h]
  · rw [getD_set_ne (Ne.symm e)]
theorem nm_setM {cs : List Cel} {i : Nat} {s : ByteArray} (h : i < cs.length) (j : Nat) : nm (setM cs i s) j = if j = i then s else nm cs j := by
  unfold nm setM
  split
  · rename_i e; subst e; rw [getD_set_eq h]
  · rename_i e; rw [getD_set_ne (Ne.symm e)]
theorem vl_setM {cs : List Cel} {i : Nat} {s : ByteArray} (h : i < cs.length) (j : Nat) : vl (setM cs i s) j = vl cs j := by
  unfold vl setM
  by_cases e : j = i
  · subst e; rw [getD_set_eq h]
  · rw [getD_set_ne (Ne.symm e)]
theorem nx_setV {cs : List Cel} {i : Nat} {v : Int} (h : i < cs.length) (j : Nat) : nx (setV cs i v) j = nx cs j := by
  unfold nx setV
  by_cases e : j = i
  · subst e; rw [getD_set_eq h]
  · rw [getD_set_ne (Ne.symm e)]
theorem ah_setV {cs : List Cel} {i : Nat} {v : Int} (h : i < cs.length) (j : Nat) : ah (setV cs i v) j = ah cs j := by
  unfold ah setV
  by_cases e : j = i
  · subst e; rw [getD_set_eq h]
  · rw [getD_set_ne (Ne.symm e)]
theorem nm_setV {cs : List Cel} {i : Nat} {v : Int} (h : i < cs.length) (j : Nat) : nm (setV cs i v) j = nm cs j := by
  unfold nm setV
  by_cases e : j = i
  · subst e; rw [getD_set_eq h]
  · rw [getD_set_ne (Ne.symm e)]
theorem vl_setV {cs : List Cel} {i : Nat} {v : Int} (h : i < cs.length) (j : Nat) : vl (setV cs i v) j = if j = i then v else vl cs j := by
  unfold vl setV
  split
  · rename_i e; subst e; rw [getD_set_eq h]
  · rename_i e; rw [getD_set_ne (Ne.symm e)]

/-- A value is put anew. -/
theorem InvP.value {S : Sta} {L : List Ent} {p : List Nat} (h : InvP S L p) {s : ByteArray} {i : Nat} (hf : S.f s = some i) (v : Int) :
    InvP { S with cs := setV S.cs i v } (L.map fun x => if x.1 = s then (s, v) else x) p := by
  obtain ⟨hi, hs⟩ := (h.fnd s i).1 hf
  have hil := h.lt i (by simp [hi])
  have hnames : (L.map fun x => if x.1 = s then (s, v) else x).map (·.1) = L.map (·.1) := by
    rw [List.map_map]
    refine List.map_congr_left (fun x _ => ?_)
    show (if x.1 = s then (s, v) else x).1 = x.1
    split
    · rename_i e; exact e.symm
    · rfl
  refine ⟨?_, h.nd, fun j hj => ?_, ?_, ?_, fun t j => ?_, ?_, fun x hx => ?_, ?_, h.fit, h.room1, h.room2, ?_⟩
  · exact ring_congr h.ring (fun x _ => nx_setV hil x) (fun x _ => ah_setV hil x)
  · show j < (setV S.cs i v).length; rw [len_setV]; exact h.lt j hj
  · show (setV S.cs i v).length = _; rw [len_setV]; exact h.all
  · rw [h.lst, List.map_map]
    refine List.map_congr_left (fun j hj => ?_)
    show (if (ent S.cs j).1 = s then (s, v) else ent S.cs j) = ent (setV S.cs i v) j
    unfold ent
    rw [nm_setV hil, vl_setV hil]
    by_cases e : j = i
    · subst e; rw [if_pos hs, if_pos rfl, hs]
    · rw [if_neg e, if_neg]
      intro he
      have h1 := (h.fnd s j).2 ⟨hj, he⟩
      rw [hf] at h1; injection h1 with h1; exact e h1.symm
  · show S.f t = some j ↔ j ∈ p ∧ nm (setV S.cs i v) j = t
    rw [nm_setV hil]; exact h.fnd t j
  · rw [hnames]; exact h.nms
  · rw [List.mem_map] at hx
    obtain ⟨y, hy, rfl⟩ := hx
    split
    · rename_i e; show s.size ≤ maxLen; rw [← e]; exact h.sz y hy
    · exact h.sz y hy
  · show S.m = _; rw [List.length_map]; exact h.m
  · show (setV S.cs i v).length ≤ _; rw [len_setV]; exact h.few
theorem rm_value (L : List Ent) (s : ByteArray) (v : Int) : rm (L.map fun x => if x.1 = s then (s, v) else x) s = rm L s := by
  unfold rm
  induction L with
  | nil => rfl
  | cons x L ih =>
    rw [List.map_cons]
    by_cases e : x.1 = s
    · rw [if_pos e, List.filter_cons_of_neg (by simp), List.filter_cons_of_neg (by simp [e]), ih]
    · rw [if_neg e, List.filter_cons_of_pos (by simp [e]), List.filter_cons_of_pos (by simp [e]), ih]

def addS (S : Sta) (i : Nat) (s : ByteArray) (v : Int) : Sta := { S with cs := firstC (setV (setM S.cs i s) i v) i, f := fput S.f s i, m := S.m + 1 }
theorem InvP.add {S : Sta} {L : List Ent} {p : List Nat} {i : Nat} {s : ByteArray} (v : Int) (ring : Ring S.cs p) (nd : (0 :: (i :: p ++ S.fl)).Nodup) (lt : ∀ j ∈ 0 :: (i :: p ++ S.fl), j < S.cs.length)
    (all : S.cs.length = p.length + S.fl.length + 2) (lst : L = p.map (ent S.cs)) (fnd : ∀ s i, S.f s = some i ↔ i ∈ p ∧ nm S.cs i = s) (nms : (L.map (·.1)).Nodup) (sz : ∀ x ∈ L, x.1.size ≤ maxLen) (hm : S.m = L.length)
    (fit : S.m + 1 ≤ S.room) (room1 : 1 ≤ S.room) (room2 : S.room ≤ 4096) (few : S.cs.length ≤ 4097) (hs : s.size ≤ maxLen) (hn : S.f s = none) :
    nx (setV (setM S.cs i s) i v) 0 < S.cs.length ∧ InvP (addS S i s v) ((s, v) :: L) (i :: p) := by
  have hil := lt i (by simp)
  have hip : i ∉ p := by
    rw [List.nodup_cons, List.cons_append, List.nodup_cons] at nd
    exact fun h => nd.2.1 (by simp [h])
  have hi0 : i ≠ 0 := by
    rintro rfl
    rw [List.nodup_cons] at nd
    exact nd.1 (by simp)
  have hmk : i < (setM S.cs i s).length := by rw [len_setM]; exact hil
  have e1 : ∀ j, nx (setV (setM S.cs i s) i v) j = nx S.cs j := fun j => by rw [nx_setV hmk, nx_setM hil]
  have e2 : ∀ j, ah (setV (setM S.cs i s) i v) j = ah S.cs j := fun j => by rw [ah_setV hmk, ah_setM hil]
  have e3 : ∀ j, nm (setV (setM S.cs i s) i v) j = if j = i then s else nm S.cs j := fun j => by rw [nm_setV hmk, nm_setM hil]
  have e4 : ∀ j, vl (setV (setM S.cs i s) i v) j = if j = i then v else vl S.cs j := fun j => by rw [vl_setV hmk, vl_setM hil]
  have el : (setV (setM S.cs i s) i v).length = S.cs.length := by rw [len_setV, len_setM]
  have hr : Ring (setV (setM S.cs i s) i v) p := ring_congr ring (fun x _ => e1 x) (fun x _ => e2 x)
  have hn0 : nx (setV (setM S.cs i s) i v) 0 < S.cs.length ∧ nx (setV (setM S.cs i s) i v) 0 ≠ i := by
    cases hp : p with
    | nil => rw [hp] at hr; rw [(ring_nil hr).1]; exact ⟨lt 0 (by simp), Ne.symm hi0⟩
    | cons b q => rw [hp] at hr; rw [ring_head hr]; exact ⟨lt b (by simp [hp]), by rintro rfl; exact hip (by simp [hp])⟩
  obtain ⟨d1, d2, d3, d4⟩ := first_links (cs := setV (setM S.cs i s) i v) (i := i) (by rw [el]; exact hil) (by rw [el]; exact hn0.1) hi0 hn0.2
  have hlen : (addS S i s v).cs.length = S.cs.length := by show (firstC _ i).length = _; rw [len_firstC, el]
  refine ⟨hn0.1, ring_first hr hip hi0 (nd.sublist (by simp)) d1 d2, nd, fun j hj => ?_, ?_, ?_, fun t j => ?_, ?_, fun x hx => ?_, ?_, fit, room1, room2, ?_⟩
  · rw [hlen]; exact lt j hj
  · rw [hlen, all]; show _ = (i :: p).length + S.fl.length + 1; simp; omega
  · rw [List.map_cons, lst]
    have : ent (addS S i s v).cs i = (s, v) := by show (nm (firstC _ i) i, vl (firstC _ i) i) = _; rw [d3, d4, e3, e4, if_pos rfl, if_pos rfl]
    rw [this]
    congr 1
    refine List.map_congr_left (fun j hj => ?_)
    have hji : j ≠ i := fun e => hip (e ▸ hj)
    show ent S.cs j = (nm (firstC _ i) j, vl (firstC _ i) j)
    rw [d3, d4, e3, e4, if_neg hji, if_neg hji]; rfl
  · show fput S.f s i t = some j ↔ j ∈ i :: p ∧ nm (firstC (setV (setM S.cs i s) i v) i) j = t
    rw [d3, e3]
    unfold fput
    by_cases ht : t = s
    · rw [if_pos ht]
      constructor
      · intro h; injection h with h; subst h; exact ⟨by simp, by rw [if_pos rfl, ht]⟩
      · rintro ⟨hj, hj2⟩
        by_cases hji : j = i
        · rw [hji]
        · rw [if_neg hji] at hj2
          have : S.f s = some j := (fnd s j).2 ⟨by rw [List.mem_cons] at hj; exact hj.resolve_left hji, by rw [hj2, ht]⟩
          rw [hn] at this; cases this
    · rw [if_neg ht, fnd]
      constructor
      · rintro ⟨hj, hj2⟩
        have hji : j ≠ i := fun e => hip (e ▸ hj)
        exact ⟨by simp [hj], by rw [if_neg hji]; exact hj2⟩
      · rintro ⟨hj, hj2⟩
        by_cases hji : j = i
        · rw [if_pos hji] at hj2; exact absurd hj2.symm ht
        · rw [if_neg hji] at hj2
          exact ⟨by rw [List.mem_cons] at hj; exact hj.resolve_left hji, hj2⟩
  · rw [List.map_cons, List.nodup_cons]
    refine ⟨fun h => ?_, nms⟩
    rw [List.mem_map] at h
    obtain ⟨x, hx, hx2⟩ := h
    rw [lst, List.mem_map] at hx
    obtain ⟨j, hj, rfl⟩ := hx
    have : S.f s = some j := (fnd s j).2 ⟨hj, hx2⟩
    rw [hn] at this; cases this
  · rw [List.mem_cons] at hx
    rcases hx with rfl | hx
    · exact hs
    · exact sz x hx
  · show S.m + 1 = _; rw [hm]; rfl
  · rw [hlen]; exact few
section
variable {S : Sta} {L : List Ent} {p : List Nat}
theorem InvP.add_free (h : InvP S L p) {l : List Nat} {i : Nat} (hfl : S.fl = l ++ [i]) {s : ByteArray} (v : Int) (hs : s.size ≤ maxLen) (hn : S.f s = none) (fit : S.m + 1 ≤ S.room) :
    i < S.cs.length ∧ nx (setV (setM S.cs i s) i v) 0 < S.cs.length ∧ InvP (addS { S with fl := l } i s v) ((s, v) :: L) (i :: p) := by
  have hperm : (0 :: (i :: p ++ l)).Perm (0 :: (p ++ S.fl)) := by
    rw [hfl]
    refine List.Perm.cons 0 ?_
    have : (p ++ (l ++ [i])).Perm (i :: (p ++ l)) := by rw [← List.append_assoc]; exact List.perm_append_comm
    exact this.symm
  have hall := h.all
  rw [hfl] at hall
  refine ⟨h.lt i (by rw [hfl]; simp), InvP.add (S := { S with fl := l }) v h.ring (hperm.nodup_iff.2 h.nd) (fun j hj => h.lt j (hperm.mem_iff.1 hj)) ?_ h.lst h.fnd h.nms h.sz h.m fit h.room1 h.room2 h.few hs hn⟩
  show S.cs.length = p.length + l.length + 2
  rw [hall]; simp; omega
theorem InvP.add_new (h : InvP S L p) (hfl : S.fl = []) {s : ByteArray} (v : Int) (hs : s.size ≤ maxLen) (hn : S.f s = none) (fit : S.m + 1 ≤ S.room) :
    nx (setV (setM (S.cs ++ [Cel.zero]) S.cs.length s) S.cs.length v) 0 < S.cs.length + 1 ∧ InvP (addS { S with cs := S.cs ++ [Cel.zero] } S.cs.length s v) ((s, v) :: L) (S.cs.length :: p) := by
  have hlt : ∀ j ∈ 0 :: p, j < S.cs.length := fun j hj => h.lt j (by rw [hfl]; simpa using hj)
  have hg : ∀ j ∈ 0 :: p, (S.cs ++ [Cel.zero]).getD j Cel.zero = S.cs.getD j Cel.zero := fun j hj => by
    simp [List.getD, List.getElem?_append_left (hlt j hj)]
  have hnd := h.nd
  rw [hfl, List.append_nil] at hnd
  have hall := h.all
  rw [hfl] at hall
  have hfew : S.cs.length ≤ 4096 := by
    have h1 := h.m
    have h2 : L.length = p.length := by rw [h.lst]; simp
    have h3 := h.room2
    simp at hall
    omega
  have hlen : (S.cs ++ [Cel.zero]).length = S.cs.length + 1 := by simp
  have := InvP.add (S := { S with cs := S.cs ++ [Cel.zero] }) (L := L) (p := p) (i := S.cs.length) (s := s) v
    (ring_congr h.ring (fun x hx => by unfold nx; rw [hg x hx]) (fun x hx => by unfold ah; rw [hg x hx]))
    (by
      show (0 :: (S.cs.length :: p ++ S.fl)).Nodup
      rw [hfl, List.append_nil]
      rw [List.nodup_cons] at hnd ⊢
      refine ⟨?_, ?_⟩
      · rw [List.mem_cons]; rintro (h0 | h0)
        · have := hlt 0 (by simp); omega
        · exact hnd.1 h0
      · rw [List.nodup_cons]
        exact ⟨fun h0 => by have := hlt _ (List.mem_cons_of_mem 0 h0); omega, hnd.2⟩)
    (fun j hj => by
      show j < (S.cs ++ [Cel.zero]).length
      rw [hlen]
      have hj' : j ∈ 0 :: (S.cs.length :: p ++ S.fl) := hj
      rw [hfl, List.append_nil, List.mem_cons, List.mem_cons] at hj'
      rcases hj' with h0 | h0 | h0
      · omega
      · omega
      · have := hlt j (by simp [h0]); omega)
    (by show (S.cs ++ [Cel.zero]).length = p.length + S.fl.length + 2; rw [hlen, hall, hfl])
    (by
      rw [h.lst]
      exact List.map_congr_left (fun j hj => by unfold ent nm vl; rw [hg j (by simp [hj])]))
    (fun t j => by
      show S.f t = some j ↔ j ∈ p ∧ nm (S.cs ++ [Cel.zero]) j = t
      rw [h.fnd]
      constructor
      · rintro ⟨a, b⟩; exact ⟨a, by unfold nm at b ⊢; rw [hg j (by simp [a])]; exact b⟩
      · rintro ⟨a, b⟩; exact ⟨a, by unfold nm at b ⊢; rw [hg j (by simp [a])] at b; exact b⟩)
    h.nms h.sz h.m fit h.room1 h.room2 (by show (S.cs ++ [Cel.zero]).length ≤ 4097; rw [hlen]; omega) hs hn
  refine ⟨?_, this.2⟩
  have h1 := this.1
  rw [hlen] at h1
  exact h1
end
end Go.Proofs.Ytnipmhidiiondaa
