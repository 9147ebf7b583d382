/- Plain law: trees, their twigs in order, and what the checker says of them. No walk. -/
import Derived.Test.YtpdofcjgpomehaaChk
namespace Go.Proofs.Ytpdofcjgpomehaa

inductive Tr where
  | node (x : Tw) (ks : List Tr)
mutual
def Tr.flat : Tr → List Tw
  | .node x ks => x :: flats ks
def flats : List Tr → List Tw
  | [] => []
  | k :: ks => k.flat ++ flats ks
end
mutual
def Tr.depth : Tr → Nat
  | .node _ ks => depths ks + 1
def depths : List Tr → Nat
  | [] => 0
  | k :: ks => max k.depth (depths ks)
end
mutual
def Tr.ok (may : Nat → Bool) : Tr → Prop
  | .node x ks => fineB x may = true ∧ x.kids = (ks.length : Nat) ∧ oks x 0 ks
def oks (x : Tw) (i : Nat) : List Tr → Prop
  | [] => True
  | k :: ks => k.ok (partOf x i) ∧ oks x (i + 1) ks
end
theorem flat_pos (t : Tr) : 0 < t.flat.length := by
  cases t; simp [Tr.flat]
theorem drop_head {α : Type} {l : List α} {at_ : Nat} {x : α} {r : List α} (h : l.drop at_ = x :: r) : l[at_]? = some x ∧ l.drop (at_ + 1) = r := by
  constructor
  · have h2 : (l.drop at_)[0]? = some x := by rw [h]; rfl
    rw [List.getElem?_drop] at h2
    exact h2
  · have h2 : (l.drop at_).drop 1 = r := by rw [h]; rfl
    rw [List.drop_drop] at h2
    exact h2
theorem drop_app {α : Type} {l : List α} {at_ : Nat} {a r : List α} (h : l.drop at_ = a ++ r) : l.drop (at_ + a.length) = r := by
  have h2 : (l.drop at_).drop a.length = r := by rw [h]; simp
  rw [List.drop_drop] at h2
  exact h2
theorem drop_len {α : Type} {l : List α} {at_ : Nat} {a : List α} (h : l.drop at_ = a) : l.length - at_ = a.length := by
  rw [← h, List.length_drop]
section
variable {l : List Tw}
mutual
theorem wk_ok (l : List Tw) : ∀ (t : Tr) (f at_ lv : Nat) (may : Nat → Bool) (dp : Int) (r : List Tw), t.ok may → l.drop at_ = t.flat ++ r → l.length ≤ at_ + f →
    (wk f l at_ lv may dp).1 = at_ + t.flat.length ∧ (wk f l at_ lv may dp).2.1 = -1 ∧ (0 ≤ (wk f l at_ lv may dp).2.2 ↔ 0 ≤ dp ∨ 42 ≤ lv + t.depth)
  | .node x ks, f, at_, lv, may, dp, r, hok, hd, hf => by
    rw [Tr.ok] at hok
    rw [Tr.flat, List.cons_append] at hd
    have h1 := drop_head hd
    have hlt := (List.getElem?_eq_some_iff.1 h1.1).1
    cases f with
    | zero => omega
    | succ f =>
      unfold wk
      rw [h1.1]
      dsimp only
      rw [if_pos hok.1, show x.kids.toNat = ks.length from by rw [hok.2.1]; rfl]
      have h2 := wks_ok l ks f x 0 (at_ + 1) (lv + 1) (if 40 < lv ∧ dp < 0 then (at_ : Int) else dp) r hok.2.2 h1.2 (by omega)
      rw [Tr.flat, Tr.depth, List.length_cons]
      refine ⟨by rw [h2.1]; omega, h2.2.1, ?_⟩
      rw [h2.2.2]
      by_cases hks : ks = []
      · rw [hks, show depths [] = 0 from rfl]
        split <;> simp <;> omega
      · simp only [hks, ne_eq, not_false_eq_true, and_true]
        split <;> omega
theorem wks_ok (l : List Tw) : ∀ (ks : List Tr) (f : Nat) (x : Tw) (i nx lv : Nat) (dp : Int) (r : List Tw), oks x i ks → l.drop nx = flats ks ++ r → l.length ≤ nx + f →
    (wkL (wk f l) x lv ks.length i nx dp).1 = nx + (flats ks).length ∧ (wkL (wk f l) x lv ks.length i nx dp).2.1 = -1 ∧ (0 ≤ (wkL (wk f l) x lv ks.length i nx dp).2.2 ↔ 0 ≤ dp ∨ 42 ≤ lv + depths ks ∧ ks ≠ [])
  | [], f, x, i, nx, lv, dp, r, _, _, _ => by simp [wkL, flats]
  | k :: ks, f, x, i, nx, lv, dp, r, hok, hd, hf => by
    rw [oks] at hok
    rw [flats, List.append_assoc] at hd
    have h1 := wk_ok l k f nx lv (partOf x i) dp (flats ks ++ r) hok.1 hd hf
    rw [List.length_cons, wkL, h1.2.1, if_neg (by omega), h1.1]
    have h2 := wks_ok l ks f x (i + 1) (nx + k.flat.length) lv (wk f l nx lv (partOf x i) dp).2.2 r hok.2 (drop_app hd) (by omega)
    refine ⟨by rw [h2.1, flats, List.length_append]; omega, h2.2.1, ?_⟩
    rw [h2.2.2, h1.2.2, depths]
    have hk : 0 < k.depth := by cases k; simp [Tr.depth]
    have : ks = [] → depths ks = 0 := fun h => by rw [h]; rfl
    by_cases hks : ks = []
    · rw [this hks, hks]; simp
      try omega
    · simp [hks]; omega
end
end
theorem wkL_back {l : List Tw} {f : Nat} (ih : ∀ (at_ lv : Nat) (may : Nat → Bool) (dp : Int), at_ ≤ l.length → (wk f l at_ lv may dp).2.1 < 0 → ∃ t : Tr, t.ok may ∧ l.drop at_ = t.flat ++ l.drop (wk f l at_ lv may dp).1) (x : Tw) (lv : Nat) :
    ∀ (k i nx : Nat) (dp : Int), nx ≤ l.length → (wkL (wk f l) x lv k i nx dp).2.1 < 0 → ∃ ks : List Tr, ks.length = k ∧ oks x i ks ∧ l.drop nx = flats ks ++ l.drop (wkL (wk f l) x lv k i nx dp).1
  | 0, i, nx, dp, _, _ => ⟨[], rfl, by simp [oks], by simp [flats, wkL]⟩
  | k + 1, i, nx, dp, hnx, h => by
    unfold wkL at h ⊢
    split at h
    · rename_i h0; omega
    · rename_i h0
      rw [if_neg h0]
      obtain ⟨t, ht1, ht2⟩ := ih nx lv (partOf x i) dp hnx (by omega)
      have hle := wk_le f l nx lv (partOf x i) dp hnx
      obtain ⟨ks, hk1, hk2, hk3⟩ := wkL_back ih x lv k (i + 1) _ _ hle.2 h
      exact ⟨t :: ks, by simp [hk1], by rw [oks]; exact ⟨ht1, hk2⟩, by rw [flats, List.append_assoc, ← hk3]; exact ht2⟩
theorem wk_back (l : List Tw) : ∀ (f at_ lv : Nat) (may : Nat → Bool) (dp : Int), at_ ≤ l.length → (wk f l at_ lv may dp).2.1 < 0 → ∃ t : Tr, t.ok may ∧ l.drop at_ = t.flat ++ l.drop (wk f l at_ lv may dp).1
  | 0, at_, lv, may, dp, _, h => by unfold wk at h; dsimp only at h; omega
  | f + 1, at_, lv, may, dp, hat, h => by
    unfold wk at h ⊢
    cases hx : l[at_]? with
    | none => rw [hx] at h; dsimp only at h; omega
    | some x =>
      rw [hx] at h
      dsimp only at h ⊢
      have hlt := (List.getElem?_eq_some_iff.1 hx).1
      cases hb : fineB x may
      · rw [hb] at h; simp at h; omega
      · rw [hb] at h
        rw [if_pos rfl] at h ⊢
        obtain ⟨ks, hk1, hk2, hk3⟩ := wkL_back (fun at_ lv may dp h1 h2 => wk_back l f at_ lv may dp h1 h2) x (lv + 1) x.kids.toNat 0 (at_ + 1) (if 40 < lv ∧ dp < 0 then (at_ : Int) else dp) (by omega) h
        refine ⟨.node x ks, ?_, ?_⟩
        · rw [Tr.ok]
          refine ⟨hb, ?_, hk2⟩
          have : 0 ≤ x.kids := by
            unfold fineB at hb
            split at hb
            · cases hb
            · simp at hb; omega
          omega
        · rw [Tr.flat, List.cons_append, ← hk3, List.drop_eq_getElem_cons hlt, (List.getElem?_eq_some_iff.1 hx).2]
/-- Right twigs: those of a tree. -/
def Right (l : List Tw) (t : Tr) : Prop := t.ok (fun _ => true) ∧ t.flat = l
open Classical in
/-- What Check says is wrong. -/
noncomputable def errOf (l : List Tw) : Int := if 2048 < l.length then 2 else if ∃ t, Right l t then (if ∃ t, Right l t ∧ t.depth ≤ 40 then 0 else 2) else 3
theorem chk_right {l : List Tw} {t : Tr} (h : Right l t) (hl : l.length ≤ 2048) : (chk l).2 = if t.depth ≤ 40 then 0 else 2 := by
  have h1 := wk_ok l t l.length 0 1 (fun _ => true) (-1) [] h.1 (by rw [h.2]; simp) (by omega)
  rw [h.2] at h1
  unfold chk
  rw [if_neg (by omega), if_neg (by rw [h1.2.1]; omega), if_neg (by rw [h1.1]; omega)]
  by_cases hd : t.depth ≤ 40
  · rw [if_neg (by rw [h1.2.2]; omega), if_pos hd]
  · rw [if_pos (by rw [h1.2.2]; omega), if_neg hd]
theorem chk_wrong {l : List Tw} (h : ¬ ∃ t, Right l t) (hl : l.length ≤ 2048) : (chk l).2 = 3 := by
  unfold chk
  rw [if_neg (by omega)]
  by_cases h1 : 0 ≤ (wk l.length l 0 1 (fun _ => true) (-1)).2.1
  · rw [if_pos h1]
  · rw [if_neg h1]
    by_cases h2 : (wk l.length l 0 1 (fun _ => true) (-1)).1 < l.length
    · rw [if_pos h2]
    · exfalso
      obtain ⟨t, ht1, ht2⟩ := wk_back l l.length 0 1 (fun _ => true) (-1) (Nat.zero_le _) (by omega)
      refine h ⟨t, ht1, ?_⟩
      have e : l.drop (wk l.length l 0 1 (fun _ => true) (-1)).1 = [] := List.drop_of_length_le (by omega)
      rw [e, List.append_nil, List.drop_zero] at ht2
      exact ht2.symm
theorem chk_long {l : List Tw} (hl : 2048 < l.length) : (chk l).2 = 2 := by
  unfold chk
  rw [if_pos hl]
/-- The checker is content just with trees that are not too deep. -/
theorem chk_fine {l : List Tw} : (chk l).2 = 0 ↔ l.length ≤ 2048 ∧ ∃ t, Right l t ∧ t.depth ≤ 40 := by
  by_cases hl : 2048 < l.length
  · rw [chk_long hl]; constructor
    · intro h; cases h
    · intro h; omega
  · by_cases h : ∃ t, Right l t
    · obtain ⟨t, ht⟩ := h
      rw [chk_right ht (by omega)]
      constructor
      · intro h
        split at h
        · exact ⟨by omega, t, ht, by assumption⟩
        · cases h
      · rintro ⟨_, t', ht', hd⟩
        have e := chk_right ht' (by omega)
        rw [chk_right ht (by omega), if_pos hd] at e
        exact e
    · rw [chk_wrong h (by omega)]; constructor
      · intro h; cases h
      · rintro ⟨_, t, ht, _⟩; exact absurd ⟨t, ht⟩ h
theorem chk_err {l : List Tw} : (chk l).2 = 0 ∨ (chk l).2 = 2 ∨ (chk l).2 = 3 := by
  unfold chk
  repeat' split
  all_goals simp
end Go.Proofs.Ytpdofcjgpomehaa
