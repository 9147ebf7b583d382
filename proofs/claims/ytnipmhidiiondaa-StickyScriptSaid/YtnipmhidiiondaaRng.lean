/- Plain law: cells in a ring, and what is done to them. No program in sight. -/
import Derived.Test.YtnipmhidiiondaaKit
namespace Go.Proofs.Ytnipmhidiiondaa

structure Cel where
  name : ByteArray
  v : Int
  ahead : Nat
  next : Nat
def Cel.zero : Cel := ⟨⟨#[]⟩, 0, 0, 0⟩

def nx (cs : List Cel) (i : Nat) : Nat := (cs.getD i Cel.zero).next
def ah (cs : List Cel) (i : Nat) : Nat := (cs.getD i Cel.zero).ahead
def nm (cs : List Cel) (i : Nat) : ByteArray := (cs.getD i Cel.zero).name
def vl (cs : List Cel) (i : Nat) : Int := (cs.getD i Cel.zero).v

def setN (cs : List Cel) (i n : Nat) : List Cel := cs.set i { cs.getD i Cel.zero with next := n }
def setA (cs : List Cel) (i n : Nat) : List Cel := cs.set i { cs.getD i Cel.zero with ahead := n }
def setV (cs : List Cel) (i : Nat) (v : Int) : List Cel := cs.set i { cs.getD i Cel.zero with v := v }
def setM (cs : List Cel) (i : Nat) (s : ByteArray) : List Cel := cs.set i { cs.getD i Cel.zero with name := s }
section
variable {cs : List Cel} {i n j : Nat}
theorem getD_set_eq (h : i < cs.length) (c : Cel) : (cs.set i c).getD i Cel.zero = c := by simp [List.getD, h]
theorem getD_set_ne (h : i ≠ j) (c : Cel) : (cs.set i c).getD j Cel.zero = cs.getD j Cel.zero := by simp [List.getD, List.getElem?_set_ne h]
theorem len_setN : (setN cs i n).length = cs.length := by simp [setN]
theorem len_setA : (setA cs i n).length = cs.length := by simp [setA]
theorem len_setV {v : Int} : (setV cs i v).length = cs.length := by simp [setV]
theorem len_setM {s : ByteArray} : (setM cs i s).length = cs.length := by simp [setM]
theorem nx_setN (h : i < cs.length) (j : Nat) : nx (setN cs i n) j = if j = i then n else nx cs j := by
  unfold nx setN
  split
  · rename_i e; subst e; rw [getD_set_eq h]
  · rename_i e; rw [getD_set_ne (Ne.symm e)]
theorem ah_setN (h : i < cs.length) (j : Nat) : ah (setN cs i n) j = ah cs j := by
  unfold ah setN
  by_cases e : j = i
  · subst e; rw [getD_set_eq h]
  · rw [getD_set_ne (Ne.symm e)]
theorem ah_setA (h : i < cs.length) (j : Nat) : ah (setA cs i n) j = if j = i then n else ah cs j := by
  unfold ah setA
  split
  · rename_i e; subst e; rw [getD_set_eq h]
  · rename_i e; rw [getD_set_ne (Ne.symm e)]
theorem nx_setA (h : i < cs.length) (j : Nat) : nx (setA cs i n) j = nx cs j := by
  unfold nx setA
  by_cases e : j = i
  · subst e; rw [getD_set_eq h]
  · rw [getD_set_ne (Ne.symm e)]
theorem nm_setN (h : i < cs.length) (j : Nat) : nm (setN cs i n) j = nm cs j := by
  unfold nm setN
  by_cases e : j = i
  · subst e; rw [getD_set_eq h]
  · rw [getD_set_ne (Ne.symm e)]
theorem nm_setA (h : i < cs.length) (j : Nat) : nm (setA cs i n) j = nm cs j := by
  unfold nm setA
  by_cases e : j = i
  · subst e; rw [getD_set_eq h]
  · rw [getD_set_ne (Ne.symm e)]
theorem vl_setN (h : i < cs.length) (j : Nat) : vl (setN cs i n) j = vl cs j := by
  unfold vl setN
  by_cases e : j = i
  · subst e; rw [getD_set_eq h]
  · rw [getD_set_ne (Ne.symm e)]
theorem vl_setA (h : i < cs.length) (j : Nat) : vl (setA cs i n) j = vl cs j := by
  unfold vl setA
  by_cases e : j = i
  · subst e; rw [getD_set_eq h]
  · rw [getD_set_ne (Ne.symm e)]
theorem nx_set (c : Cel) (h : i < cs.length) (j : Nat) : nx (cs.set i c) j = if j = i then c.next else nx cs j := by
  unfold nx
  split
  · rename_i e; subst e; rw [getD_set_eq h]
  · rename_i e; rw [getD_set_ne (Ne.symm e)]
theorem ah_set (c : Cel) (h : i < cs.length) (j : Nat) : ah (cs.set i c) j = if j = i then c.ahead else ah cs j := by
  unfold ah
  split
  · rename_i e; subst e; rw [getD_set_eq h]
  · rename_i e; rw [getD_set_ne (Ne.symm e)]
theorem nm_set (c : Cel) (h : i < cs.length) (j : Nat) : nm (cs.set i c) j = if j = i then c.name else nm cs j := by
  unfold nm
  split
  · rename_i e; subst e; rw [getD_set_eq h]
  · rename_i e; rw [getD_set_ne (Ne.symm e)]
theorem vl_set (c : Cel) (h : i < cs.length) (j : Nat) : vl (cs.set i c) j = if j = i then c.v else vl cs j := by
  unfold vl
  split
  · rename_i e; subst e; rw [getD_set_eq h]
  · rename_i e; rw [getD_set_ne (Ne.symm e)]
end

/-! ### Chains -/
def Ch (f g : Nat → Nat) : List Nat → Prop
  | a :: b :: l => f a = b ∧ g b = a ∧ Ch f g (b :: l)
  | _ => True
section
variable {f g f' g' : Nat → Nat}
theorem Ch.congr : ∀ {l : List Nat}, Ch f g l → (∀ x ∈ l.dropLast, f' x = f x) → (∀ y ∈ l.tail, g' y = g y) → Ch f' g' l
  | [], _, _, _ => trivial
  | [_], _, _, _ => trivial
  | a :: b :: l, h, hf, hg => by
    obtain ⟨h1, h2, h3⟩ := h
    exact ⟨(hf a (by simp)).trans h1, (hg b (by simp)).trans h2, h3.congr (fun x hx => hf x (by simp [List.dropLast] at hx ⊢; right; exact hx)) (fun y hy => hg y (by simp at hy ⊢; right; exact hy))⟩
theorem Ch.left : ∀ {l r : List Nat} {a : Nat}, Ch f g (l ++ a :: r) → Ch f g (l ++ [a])
  | [], _, _, _ => trivial
  | [x], r, a, h => ⟨h.1, h.2.1, trivial⟩
  | x :: y :: l, r, a, h => ⟨h.1, h.2.1, Ch.left (l := y :: l) h.2.2⟩
theorem Ch.right : ∀ {l r : List Nat} {a : Nat}, Ch f g (l ++ a :: r) → Ch f g (a :: r)
  | [], _, _, h => h
  | [x], r, a, h => h.2.2
  | x :: y :: l, r, a, h => Ch.right (l := y :: l) h.2.2
theorem Ch.join : ∀ {l r : List Nat} {a : Nat}, Ch f g (l ++ [a]) → Ch f g (a :: r) → Ch f g (l ++ a :: r)
  | [], _, _, _, h => h
  | [x], r, a, h, k => ⟨h.1, h.2.1, k⟩
  | x :: y :: l, r, a, h, k => ⟨h.1, h.2.1, Ch.join (l := y :: l) h.2.2 k⟩
end

/-- The ring: 0, the places in order, and 0 again. -/
def Ring (cs : List Cel) (p : List Nat) : Prop := Ch (nx cs) (ah cs) (0 :: (p ++ [0]))
theorem last_split (l : List Nat) (z : Nat) : ∃ l' a, z :: l = l' ++ [a] ∧ (∀ x ∈ l', x = z ∨ x ∈ l) ∧ (a = z ∨ a ∈ l) := by
  induction l generalizing z with
  | nil => exact ⟨[], z, rfl, by simp, .inl rfl⟩
  | cons b l ih =>
    obtain ⟨l', a, e, h1, h2⟩ := ih b
    refine ⟨z :: l', a, by rw [e]; rfl, fun x hx => ?_, ?_⟩
    · rw [List.mem_cons] at hx
      rcases hx with rfl | hx
      · exact .inl rfl
      · rcases h1 x hx with rfl | h
        · exact .inr (by simp)
        · exact .inr (by simp [h])
    · rcases h2 with rfl | h
      · exact .inr (by simp)
      · exact .inr (by simp [h])

/-- What stands ahead of i and behind it in the ring. -/
theorem ring_cut {cs : List Cel} {l r : List Nat} {i : Nat} (h : Ring cs (l ++ i :: r)) (hnd : (0 :: (l ++ i :: r)).Nodup) :
    (ah cs i = 0 ∨ ah cs i ∈ l) ∧ (nx cs i = 0 ∨ nx cs i ∈ r) ∧
    ∀ cs', (∀ j, nx cs' j = if j = ah cs i then nx cs i else nx cs j) → (∀ j, ah cs' j = if j = nx cs i then ah cs i else ah cs j) → Ring cs' (l ++ r) := by
  unfold Ring at h
  obtain ⟨l', a, e1, h1, h2⟩ := last_split l 0
  have er : ∃ b r', r ++ [0] = b :: r' ∧ (b = 0 ∧ r = [] ∧ r' = [] ∨ ∃ r2, r = b :: r2 ∧ r' = r2 ++ [0]) := by
    cases r with
    | nil => exact ⟨0, [], rfl, .inl ⟨rfl, rfl, rfl⟩⟩
    | cons b r2 => exact ⟨b, r2 ++ [0], rfl, .inr ⟨r2, rfl, rfl⟩⟩
  obtain ⟨b, r', e2, hb⟩ := er
  have e3 : 0 :: ((l ++ i :: r) ++ [0]) = l' ++ a :: i :: b :: r' := by
    rw [show 0 :: ((l ++ i :: r) ++ [0]) = (0 :: l) ++ i :: (r ++ [0]) by simp, e1, e2]; simp
  rw [e3] at h
  have hr := Ch.right h
  obtain ⟨k1, k2, k3, k4, k5⟩ := hr
  have hai : ah cs i = a := k2
  have hni : nx cs i = b := k3
  rw [hai, hni]
  refine ⟨h2, ?_, fun cs' hn ha => ?_⟩
  · rcases hb with ⟨hb, _, _⟩ | ⟨r2, hb, _⟩
    · exact .inl hb
    · exact .inr (by rw [hb]; simp)
  · unfold Ring
    have e4 : 0 :: ((l ++ r) ++ [0]) = l' ++ a :: b :: r' := by
      rw [show 0 :: ((l ++ r) ++ [0]) = (0 :: l) ++ (r ++ [0]) by simp, e1, e2]; simp
    rw [e4]
    have hnd2 : ((l' ++ [a]) ++ i :: r).Nodup := by
      rw [← e1]; simpa using hnd
    have hl := Ch.left h
    have hal : a ∉ l' := by
      intro hx
      have := (List.nodup_append.1 hnd2).1
      rw [List.nodup_append] at this
      exact this.2.2 a hx a (by simp) rfl
    have har : a ∉ r := by
      intro hx
      exact (List.nodup_append.1 hnd2).2.2 a (by simp) a (by simp [hx]) rfl
    have hbl : ∀ y ∈ (l' ++ [a]).tail, y ≠ b := by
      intro y hy
      rw [← e1, List.tail_cons] at hy
      have hy0 : y ≠ 0 := by
        rintro rfl
        rw [List.nodup_cons] at hnd
        exact hnd.1 (by simp [hy])
      rcases hb with ⟨hb, _, _⟩ | ⟨r2, hb, _⟩
      · rw [hb]; exact hy0
      · rintro rfl
        rw [List.nodup_cons, List.nodup_append] at hnd
        exact hnd.2.2.2 y hy y (by rw [hb]; simp) rfl
    have hbr : ∀ y ∈ r', y ≠ b := by
      intro y hy
      rcases hb with ⟨_, _, hb⟩ | ⟨r2, hb, hb2⟩
      · rw [hb] at hy; cases hy
      · rw [hb2, List.mem_append, List.mem_singleton] at hy
        have hb0 : b ≠ 0 := by
          rintro rfl
          rw [List.nodup_cons] at hnd
          exact hnd.1 (by rw [hb]; simp)
        rcases hy with hy | rfl
        · rintro rfl
          have h3 := (List.nodup_append.1 hnd2).2.1
          rw [hb, List.nodup_cons, List.nodup_cons] at h3
          exact h3.2.1 hy
        · exact Ne.symm hb0
    have hbr2 : ∀ x ∈ (b :: r').dropLast, x ≠ a := by
      intro x hx
      rcases hb with ⟨_, _, hb⟩ | ⟨r2, hb, hb2⟩
      · rw [hb] at hx; cases hx
      · rw [hb2] at hx
        have : (b :: (r2 ++ [0])).dropLast = b :: r2 := by rw [← List.cons_append, List.dropLast_concat]
        rw [this, ← hb] at hx
        rintro rfl
        exact har hx
    refine Ch.join ?_ ⟨?_, ?_, ?_⟩
    · refine hl.congr (fun x hx => ?_) (fun y hy => ?_)
      · rw [List.dropLast_concat] at hx
        rw [hn, if_neg (by rintro rfl; exact hal hx)]
      · rw [ha, if_neg (hbl y hy)]
    · rw [hn, if_pos rfl]
    · rw [ha, if_pos rfl]
    · refine k5.congr (fun x hx => ?_) (fun y hy => ?_)
      · rw [hn, if_neg (hbr2 x hx)]
      · rw [ha, if_neg (hbr y hy)]

theorem ring_first {cs cs' : List Cel} {p : List Nat} {i : Nat} (h : Ring cs p) (hi : i ∉ p) (h0 : i ≠ 0) (hnd : (0 :: p).Nodup)
    (hn : ∀ j, nx cs' j = if j = 0 then i else if j = i then nx cs 0 else nx cs j) (ha : ∀ j, ah cs' j = if j = nx cs 0 then i else if j = i then 0 else ah cs j) : Ring cs' (i :: p) := by
  unfold Ring at h ⊢
  have ep : ∃ b r', p ++ [0] = b :: r' ∧ (b = 0 ∧ p = [] ∧ r' = [] ∨ ∃ r2, p = b :: r2 ∧ r' = r2 ++ [0]) := by
    cases p with
    | nil => exact ⟨0, [], rfl, .inl ⟨rfl, rfl, rfl⟩⟩
    | cons b r2 => exact ⟨b, r2 ++ [0], rfl, .inr ⟨r2, rfl, rfl⟩⟩
  obtain ⟨b, r', e, hb⟩ := ep
  rw [e] at h
  obtain ⟨k1, k2, k3⟩ := h
  rw [List.cons_append, e]
  have hbi : b ≠ i := by
    rcases hb with ⟨hb, _, _⟩ | ⟨r2, hb, _⟩
    · rw [hb]; exact Ne.symm h0
    · rintro rfl; exact hi (by rw [hb]; simp)
  have hbr : ∀ y ∈ r', y ≠ b ∧ y ≠ i := by
    intro y hy
    rcases hb with ⟨_, _, hb⟩ | ⟨r2, hb, hb2⟩
    · rw [hb] at hy; cases hy
    · rw [hb2, List.mem_append, List.mem_singleton] at hy
      rw [hb, List.nodup_cons, List.nodup_cons] at hnd
      rcases hy with hy | rfl
      · exact ⟨by rintro rfl; exact hnd.2.1 hy, by rintro rfl; exact hi (by rw [hb]; simp [hy])⟩
      · exact ⟨by rintro rfl; exact hnd.1 (by simp), Ne.symm h0⟩
  have hbr2 : ∀ x ∈ (b :: r').dropLast, x ≠ 0 ∧ x ≠ i := by
    intro x hx
    rcases hb with ⟨_, _, hb⟩ | ⟨r2, hb, hb2⟩
    · rw [hb] at hx; cases hx
    · rw [hb2] at hx
      have : (b :: (r2 ++ [0])).dropLast = b :: r2 := by rw [← List.cons_append, List.dropLast_concat]
      rw [this, ← hb] at hx
      rw [List.nodup_cons] at hnd
      exact ⟨by rintro rfl; exact hnd.1 hx, by rintro rfl; exact hi hx⟩
  refine ⟨?_, ?_, ?_, ?_, ?_⟩
  · rw [hn, if_pos rfl]
  · rw [ha, k1, if_neg (Ne.symm hbi), if_pos rfl]
  · rw [hn, if_neg h0, if_pos rfl, k1]
  · rw [ha, k1, if_pos rfl]
  · refine k3.congr (fun x hx => ?_) (fun y hy => ?_)
    · rw [hn, if_neg (hbr2 x hx).1, if_neg (hbr2 x hx).2]
    · rw [ha, k1, if_neg (hbr y hy).1, if_neg (hbr y hy).2]
theorem ring_last {cs : List Cel} {p : List Nat} {i : Nat} (h : Ring cs (p ++ [i])) : ah cs 0 = i := by
  unfold Ring at h
  rw [show 0 :: (p ++ [i] ++ [0]) = (0 :: p) ++ i :: [0] by simp] at h
  exact (Ch.right h).2.1
theorem ring_head {cs : List Cel} {p : List Nat} {i : Nat} (h : Ring cs (i :: p)) : nx cs 0 = i := h.1
theorem ring_next {cs : List Cel} {l r : List Nat} {i : Nat} (h : Ring cs (l ++ i :: r)) : nx cs i = r.headD 0 := by
  unfold Ring at h
  rw [show 0 :: (l ++ i :: r ++ [0]) = (0 :: l) ++ i :: (r ++ [0]) by simp] at h
  have h2 := Ch.right h
  cases r with
  | nil => exact h2.1
  | cons b r => exact h2.1
theorem ring_nil {cs : List Cel} (h : Ring cs []) : nx cs 0 = 0 ∧ ah cs 0 = 0 := ⟨h.1, h.2.1⟩
end Go.Proofs.Ytnipmhidiiondaa
