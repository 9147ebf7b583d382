/- The plain law of FrameBack: frames behind one another, and beginnings of them. -/
import Derived.Test.YtmoplkmfpobhaaaFfy
import Derived.Test.YtmoplkmfpobhaaaBit
namespace Go.Proofs.Ytmoplkmfpobhaaa

theorem getD_append {a b : List UInt8} {i : Nat} (h : i < a.length) : (a ++ b).getD i 0 = a.getD i 0 := by
  simp [List.getD, List.getElem?_append_left h]
theorem num4_append {a b : List UInt8} (h : 4 ≤ a.length) : num4 (a ++ b) = num4 a := by
  unfold num4
  rw [getD_append (by omega), getD_append (by omega), getD_append (by omega), getD_append (by omega)]
theorem look_append {a b : List UInt8} (h : (lookL a).2.2 = 0) : lookL (a ++ b) = lookL a := by
  have hk := lookL_ok h
  revert h hk
  unfold lookL
  by_cases c1 : a.length < 8
  · rw [if_pos c1]; intro h; cases h
  rw [if_neg c1]
  by_cases c2 : num4 (a.drop 4) ≠ sumL (a.take 4)
  · rw [if_pos c2]; intro h; cases h
  rw [if_neg c2]
  by_cases c3 : 65536 < num4 a
  · rw [if_pos c3]; intro h; cases h
  rw [if_neg c3]
  by_cases c4 : a.length < 8 + num4 a + 4
  · rw [if_pos c4]; intro h; cases h
  rw [if_neg c4]
  by_cases c5 : num4 (a.drop (8 + num4 a)) ≠ sumL ((a.take (8 + num4 a)).drop 8)
  · rw [if_pos c5]; intro h; cases h
  rw [if_neg c5]
  intro _ _
  have e1 : (a ++ b).drop 4 = a.drop 4 ++ b := List.drop_append_of_le_length (by omega)
  have e2 : (a ++ b).take 4 = a.take 4 := List.take_append_of_le_length (by omega)
  have e3 : (a ++ b).drop (8 + num4 a) = a.drop (8 + num4 a) ++ b := List.drop_append_of_le_length (by omega)
  have e4 : (a ++ b).take (8 + num4 a) = a.take (8 + num4 a) := List.take_append_of_le_length (by omega)
  rw [num4_append (by omega), e1, e2, e3, e4, num4_append (by rw [List.length_drop]; omega), num4_append (by rw [List.length_drop]; omega), List.length_append,
    if_neg (by omega), if_neg c2, if_neg c3, if_neg (by omega), if_neg c5]
theorem used_append {a b : List UInt8} (h : (lookL a).2.2 = 0) : usedL (a ++ b) = usedL a := by
  unfold usedL; rw [look_append h]
theorem body_append {a b : List UInt8} (h : (lookL a).2.2 = 0) : bodyL (a ++ b) = bodyL a := by
  have hk := lookL_ok h
  unfold bodyL; rw [look_append h, if_pos h, if_pos h, List.take_append_of_le_length (by omega)]

/-- What was read of a beginning is read of the whole, and then what follows. -/
theorem spl_append (b : List UInt8) : ∀ (n : Nat) (a : List UInt8), a.length ≤ n →
    spl (a ++ b) = ((spl a).1 ++ (spl ((a ++ b).drop (spl a).2.1)).1, (spl a).2.1 + (spl ((a ++ b).drop (spl a).2.1)).2.1, (spl ((a ++ b).drop (spl a).2.1)).2.2) := by
  intro n
  induction n with
  | zero =>
    intro a h
    have : a = [] := List.eq_nil_of_length_eq_zero (by omega)
    subst this
    simp [spl_nil]
  | succ n ih =>
    intro a h
    by_cases h0 : a = []
    · subst h0; simp [spl_nil]
    · by_cases he : (lookL a).2.2 = 0
      · have hu := used_pos he
        have hd : (a ++ b).drop (usedL a) = a.drop (usedL a) ++ b := List.drop_append_of_le_length (by omega)
        have hi := ih (a.drop (usedL a)) (by rw [List.length_drop]; omega)
        have e1 := spl_cons h0 he
        have e2 : spl (a ++ b) = _ := spl_cons (by simp [h0]) (by rw [look_append he]; exact he)
        rw [used_append he, body_append he, hd] at e2
        rw [e2, e1]
        simp only
        rw [← List.drop_drop, hd, hi]
        simp [Nat.add_assoc]
      · rw [spl_err h0 he]; simp

/-- Frames, one behind the other. -/
def framesL (ls : List (List UInt8)) : List UInt8 := ls.flatMap frameL
theorem framesL_cons (l : List UInt8) (ls : List (List UInt8)) : framesL (l :: ls) = frameL l ++ framesL ls := by unfold framesL; rw [List.flatMap_cons]
theorem framesL_snoc (l : List UInt8) (ls : List (List UInt8)) : framesL (ls ++ [l]) = framesL ls ++ frameL l := by unfold framesL; rw [List.flatMap_append]; simp
theorem look_frame_append (l b : List UInt8) (h : l.length ≤ 65536) : lookL (frameL l ++ b) = (l.length, 0, 0) := by
  rw [look_append (by rw [look_frame l h]), look_frame l h]
theorem used_frame (l b : List UInt8) (h : l.length ≤ 65536) : usedL (frameL l ++ b) = (frameL l).length := by
  unfold usedL; rw [look_frame_append l b h, frameL_length]; simp only [if_true]; omega
theorem body_frame (l b : List UInt8) (h : l.length ≤ 65536) : bodyL (frameL l ++ b) = l := by
  unfold bodyL
  have h8 : (le4 l.length ++ le4 (sumL (le4 l.length))).length = 8 := by rw [List.length_append, le4_length, le4_length]
  rw [look_frame_append l b h, if_pos rfl]
  show ((frameL l ++ b).take (8 + l.length)).drop 8 = l
  rw [frame_head, List.append_assoc, List.drop_take, List.drop_left' h8, Nat.add_sub_cancel_left, List.append_assoc, List.take_left' rfl]
theorem frameL_ne (l b : List UInt8) : frameL l ++ b ≠ [] := fun h => by
  have := congrArg List.length h
  rw [List.length_append, frameL_length, List.length_nil] at this
  omega
theorem spl_frame (l b : List UInt8) (h : l.length ≤ 65536) : spl (frameL l ++ b) = (l :: (spl b).1, (frameL l).length + (spl b).2.1, (spl b).2.2) := by
  rw [spl_cons (frameL_ne l b) (by rw [look_frame_append l b h]), used_frame l b h, body_frame l b h, List.drop_left' rfl]
theorem spl_frames : ∀ (ls : List (List UInt8)), (∀ l ∈ ls, l.length ≤ 65536) → spl (framesL ls) = (ls, (framesL ls).length, 0)
  | [], _ => rfl
  | l :: ls, h => by
    rw [framesL_cons, spl_frame l _ (h l List.mem_cons_self), spl_frames ls fun x hx => h x (List.mem_cons_of_mem _ hx), List.length_append]
/-- A beginning of a frame ends too early. -/
theorem look_short (l : List UInt8) (h : l.length ≤ 65536) (k : Nat) (hk : k < (frameL l).length) : (lookL ((frameL l).take k)).2.2 = 4 := by
  have hkl : ((frameL l).take k).length = k := by rw [List.length_take]; omega
  rw [frameL_length] at hk
  unfold lookL
  rw [hkl]
  by_cases h8 : k < 8
  · rw [if_pos h8]
  · have g4 : (le4 l.length).length = 4 := le4_length _
    have hh : (frameL l).take k = le4 l.length ++ (le4 (sumL (le4 l.length)) ++ ((l ++ le4 (sumL l)).take (k - 8))) := by
      have h8' : (le4 l.length ++ le4 (sumL (le4 l.length))).length = 8 := by rw [List.length_append, le4_length, le4_length]
      rw [frame_head, List.take_append, h8', List.take_of_length_le (by omega), List.append_assoc]
    rw [if_neg h8, hh, num4_le4 _ (by omega), List.drop_left' g4, List.take_left' g4, num4_le4 _ (sumL_lt _), if_neg (by simp), if_neg (by omega), if_pos (by omega)]
/-- What is said of a beginning of frames. -/
theorem spl_begin : ∀ (ls : List (List UInt8)), (∀ l ∈ ls, l.length ≤ 65536) → ∀ k, k ≤ (framesL ls).length →
    ((spl ((framesL ls).take k)).2.2 = 0 ∧ (spl ((framesL ls).take k)).2.1 = k) ∨ ((spl ((framesL ls).take k)).2.2 = 4 ∧ (spl ((framesL ls).take k)).2.1 < k)
  | [], _, k, hk => by
    have : k = 0 := by simpa [framesL] using hk
    subst this
    exact .inl ⟨rfl, rfl⟩
  | l :: ls, h, k, hk => by
    have hl := h l List.mem_cons_self
    rw [framesL_cons] at hk ⊢
    rw [List.length_append] at hk
    by_cases hf : k < (frameL l).length
    · rw [List.take_append_of_le_length (by omega)]
      by_cases h0 : k = 0
      · subst h0; exact .inl ⟨rfl, rfl⟩
      · have hs := look_short l hl k hf
        rw [spl_err (fun e => by have := congrArg List.length e; rw [List.length_take, List.length_nil] at this; omega) (by omega), hs]
        exact .inr ⟨rfl, by show 0 < k; omega⟩
    · have ht : (frameL l ++ framesL ls).take k = frameL l ++ (framesL ls).take (k - (frameL l).length) := by
        rw [List.take_append, List.take_of_length_le (by omega)]
      rw [ht, spl_frame l _ hl]
      have hi := spl_begin ls (fun x hx => h x (List.mem_cons_of_mem _ hx)) (k - (frameL l).length) (by omega)
      rcases hi with ⟨i1, i2⟩ | ⟨i1, i2⟩
      · exact .inl ⟨i1, by show _ + _ = k; omega⟩
      · exact .inr ⟨i1, by show _ + _ < k; omega⟩

/-- One more piece. -/
structure Cut (all : List UInt8) (at_ tq : Nat) : Prop where
  bodies : (spl (all.take tq)).1 = (spl (all.take at_)).1 ++ nb ((all.take at_).drop (spl (all.take at_)).2.1) 0 ((all.take tq).drop at_)
  left : nl ((all.take at_).drop (spl (all.take at_)).2.1) 0 ((all.take tq).drop at_) = (all.take tq).drop (spl (all.take tq)).2.1
  taken : nt (spl (all.take at_)).2.1 ((all.take at_).drop (spl (all.take at_)).2.1) 0 ((all.take tq).drop at_) = (spl (all.take tq)).2.1
  err : nerr ((all.take at_).drop (spl (all.take at_)).2.1) 0 ((all.take tq).drop at_) = errAt (spl (all.take tq)).2.2
theorem cut_any (all : List UInt8) (at_ tq : Nat) (h1 : at_ ≤ tq) (h2 : tq ≤ all.length) : Cut all at_ tq := by
  have hu := spl_used (all.take at_)
  rw [List.length_take, Nat.min_eq_left (by omega)] at hu
  have e1 : all.take tq = all.take at_ ++ (all.take tq).drop at_ := by
    have := List.take_append_drop at_ (all.take tq)
    rw [List.take_take, Nat.min_eq_left h1] at this
    exact this.symm
  have e2 : (all.take at_).drop (spl (all.take at_)).2.1 ++ (all.take tq).drop at_ = (all.take tq).drop (spl (all.take at_)).2.1 := by
    conv => rhs; rw [e1]
    rw [List.drop_append_of_le_length (by rw [List.length_take, Nat.min_eq_left (by omega)]; exact hu)]
  have hs := spl_append ((all.take tq).drop at_) _ (all.take at_) (Nat.le_refl _)
  rw [← e1] at hs
  refine ⟨?_, ?_, ?_, ?_⟩
  · unfold nb; rw [if_pos rfl, e2]; exact congrArg (·.1) hs
  · unfold nl; rw [if_pos rfl, e2, List.drop_drop, hs]
  · unfold nt; rw [if_pos rfl, e2, hs]
  · unfold nerr; rw [if_pos rfl, e2, hs]
theorem left_len (all : List UInt8) (k : Nat) (h : k ≤ all.length) : ((all.take k).drop (spl (all.take k)).2.1).length + (spl (all.take k)).2.1 = k := by
  have hu := spl_used (all.take k)
  rw [List.length_take, Nat.min_eq_left h] at hu
  rw [List.length_drop, List.length_take, Nat.min_eq_left h]; omega
end Go.Proofs.Ytmoplkmfpobhaaa
