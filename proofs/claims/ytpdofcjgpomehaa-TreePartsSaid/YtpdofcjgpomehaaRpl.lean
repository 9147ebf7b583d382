/- Plain law of the document's checker: a stack of open twigs. No walk. -/
import Derived.Test.YtpdofcjgpomehaaBck
namespace Go.Proofs.Ytpdofcjgpomehaa

/-- A twig whose parts are going by: its Op, how many came, how many there are. -/
structure Fr where
  op : Nat
  came : Nat
  n : Int
/-- The innermost is closed while all its parts came. -/
def closeF (f : Fr) : List Fr → List Fr
  | [] => if (f.came : Int) = f.n then [] else [f]
  | g :: S => if (f.came : Int) = f.n then closeF { g with came := g.came + 1 } S else f :: g :: S
def partF (f : Fr) (op : Nat) : Bool :=
  match formOf f.op with
  | none => false
  | some x => prtB x.prt f.came f.n.toNat op
def mayF : List Fr → Nat → Bool
  | [], _ => true
  | f :: _, op => partF f op
/-- The checker's steps: where it goes wrong, or what stands open at the end, and how deep it went. -/
def rrun : List Tw → Nat → List Fr → Int → Option (List Fr × Int)
  | [], _, S, dp => some (S, dp)
  | x :: l, i, S, dp =>
    if (0 < i ∧ S = []) ∨ fineB x (mayF S) = false then none
    else rrun l (i + 1) (closeF ⟨x.op, 0, x.kids⟩ S) (if dp < 0 ∧ 40 ≤ S.length then (i : Int) else dp)
theorem rrun_append : ∀ (a b : List Tw) (i : Nat) (S : List Fr) (dp : Int), rrun (a ++ b) i S dp = (rrun a i S dp).bind fun r => rrun b (i + a.length) r.1 r.2
  | [], b, i, S, dp => rfl
  | x :: a, b, i, S, dp => by
    rw [List.cons_append, rrun, rrun]
    split
    · rfl
    · rw [rrun_append a b, List.length_cons, show i + 1 + a.length = i + (a.length + 1) from by omega]
/-- The stack behind a whole part. -/
def bump : List Fr → List Fr
  | [] => []
  | f :: S => closeF { f with came := f.came + 1 } S
theorem closeF_done {f : Fr} (h : (f.came : Int) = f.n) (S : List Fr) : closeF f S = bump S := by
  cases S with
  | nil => rw [closeF, if_pos h]; rfl
  | cons g S => rw [closeF, if_pos h]; rfl
theorem closeF_open {f : Fr} (h : (f.came : Int) ≠ f.n) (S : List Fr) : closeF f S = f :: S := by
  cases S with
  | nil => rw [closeF, if_neg h]
  | cons g S => rw [closeF, if_neg h]
mutual
/-- A tree that may stand here goes through. -/
theorem rrun_tree : ∀ (t : Tr) (i : Nat) (S : List Fr) (dp : Int), t.ok (mayF S) → (i = 0 ∨ S ≠ []) →
    ∃ dp', rrun t.flat i S dp = some (bump S, dp') ∧ (0 ≤ dp' ↔ 0 ≤ dp ∨ 41 ≤ S.length + t.depth)
  | .node x ks, i, S, dp, hok, hi => by
    rw [Tr.ok] at hok
    rw [Tr.flat, rrun, Tr.depth]
    rw [if_neg (by
      rw [hok.1]
      rintro (h | h)
      · rcases hi with h2 | h2
        · omega
        · exact h2 h.2
      · cases h)]
    by_cases hks : ks = []
    · subst hks
      refine ⟨if dp < 0 ∧ 40 ≤ S.length then (i : Int) else dp, ?_, ?_⟩
      · rw [flats, rrun, closeF_done (by rw [hok.2.1]; rfl)]
      · rw [depths]
        split <;> omega
    · have hlen : 0 < ks.length := List.length_pos_iff.2 hks
      rw [closeF_open (by rw [hok.2.1]; simp; omega)]
      obtain ⟨dp', h1, h2⟩ := rrun_forest ks x 0 S (i + 1) (if dp < 0 ∧ 40 ≤ S.length then (i : Int) else dp) hok.2.2 (by rw [hok.2.1]; simp) hks (by omega)
      refine ⟨dp', h1, ?_⟩
      rw [h2]
      split <;> omega
theorem rrun_forest : ∀ (ks : List Tr) (x : Tw) (j : Nat) (S : List Fr) (i : Nat) (dp : Int), oks x j ks → x.kids = (j : Int) + (ks.length : Nat) → ks ≠ [] → 0 < i →
    ∃ dp', rrun (flats ks) i (⟨x.op, j, x.kids⟩ :: S) dp = some (bump S, dp') ∧ (0 ≤ dp' ↔ 0 ≤ dp ∨ 41 ≤ S.length + 1 + depths ks)
  | [], _, _, _, _, _, _, _, h, _ => absurd rfl h
  | k :: ks, x, j, S, i, dp, hok, hn, _, hi => by
    rw [oks] at hok
    have hmay : mayF (⟨x.op, j, x.kids⟩ :: S) = partOf x j := rfl
    obtain ⟨d1, h1, h2⟩ := rrun_tree k i (⟨x.op, j, x.kids⟩ :: S) dp (by rw [hmay]; exact hok.1) (.inr (by simp))
    rw [flats, rrun_append, h1, depths]
    show ∃ dp', rrun (flats ks) (i + k.flat.length) (closeF ⟨x.op, j + 1, x.kids⟩ S) d1 = _ ∧ _
    rw [List.length_cons] at hn h2
    by_cases hks : ks = []
    · subst hks
      rw [closeF_done (by dsimp only; simp at hn ⊢; omega), flats, rrun]
      refine ⟨d1, rfl, ?_⟩
      rw [h2, depths]
      omega
    · have hlen : 0 < ks.length := List.length_pos_iff.2 hks
      rw [closeF_open (by dsimp only; omega)]
      obtain ⟨d2, h3, h4⟩ := rrun_forest ks x (j + 1) S (i + k.flat.length) d1 hok.2 (by omega) hks (by omega)
      refine ⟨d2, h3, ?_⟩
      rw [h4, h2]
      omega
end
theorem oks_snoc : ∀ (ds : List Tr) (x : Tw) (i : Nat) (t : Tr), oks x i ds → t.ok (partOf x (i + ds.length)) → oks x i (ds ++ [t])
  | [], x, i, t, _, h => by
    simp only [List.nil_append, oks, and_true]
    simpa using h
  | d :: ds, x, i, t, h, ht => by
    rw [oks] at h
    rw [List.cons_append, oks]
    refine ⟨h.1, oks_snoc ds x (i + 1) t h.2 ?_⟩
    rw [List.length_cons] at ht
    rw [show i + 1 + ds.length = i + (ds.length + 1) from by omega]
    exact ht
/-- What a stack stands for: twigs that went by, with the parts that came. -/
inductive Exp : List Fr → List Tw → Prop
  | nil : Exp [] []
  | cons {S : List Fr} {pre : List Tw} {x : Tw} {ds : List Tr} : Exp S pre → fineB x (mayF S) = true → oks x 0 ds → (ds.length : Int) < x.kids → Exp (⟨x.op, ds.length, x.kids⟩ :: S) (pre ++ x :: flats ds)
theorem close_exp : ∀ {S : List Fr} {pre : List Tw}, Exp S pre → ∀ {x : Tw} {ds : List Tr}, fineB x (mayF S) = true → oks x 0 ds → (ds.length : Int) ≤ x.kids →
    Exp (closeF ⟨x.op, ds.length, x.kids⟩ S) (pre ++ x :: flats ds) ∨ (closeF ⟨x.op, ds.length, x.kids⟩ S = [] ∧ ∃ t, Right (pre ++ x :: flats ds) t) := by
  intro S pre h
  induction h with
  | nil =>
    intro x ds hf ho hn
    by_cases he : (ds.length : Int) = x.kids
    · right
      refine ⟨by rw [closeF, if_pos he], .node x ds, ?_, ?_⟩
      · rw [Tr.ok]; exact ⟨hf, he.symm, ho⟩
      · rw [Tr.flat]; rfl
    · left
      rw [closeF, if_neg he]
      exact .cons .nil hf ho (by omega)
  | @cons S2 pre2 y es h2 hfy hoy hny ih =>
    intro x ds hf ho hn
    by_cases he : (ds.length : Int) = x.kids
    · rw [closeF, if_pos he]
      have ht : (Tr.node x ds).ok (partOf y (0 + es.length)) := by
        rw [Tr.ok, Nat.zero_add]
        exact ⟨hf, he.symm, ho⟩
      have h3 := ih (x := y) (ds := es ++ [.node x ds]) hfy (oks_snoc es y 0 _ hoy ht) (by simp; omega)
      rw [List.length_append, List.length_cons, List.length_nil, flats_append, flats, flats, Tr.flat, List.append_nil] at h3
      have e : pre2 ++ y :: (flats es ++ x :: flats ds) = pre2 ++ y :: flats es ++ x :: flats ds := by simp
      rw [e] at h3
      exact h3
    · left
      rw [closeF, if_neg he]
      exact .cons (.cons h2 hfy hoy hny) hf ho (by omega)
theorem fine_kids {x : Tw} {may : Nat → Bool} (h : fineB x may = true) : 0 ≤ x.kids := by
  unfold fineB at h
  split at h
  · cases h
  · simp at h; omega
theorem rrun_back : ∀ (l : List Tw) (i : Nat) (S : List Fr) (dp : Int) (pre : List Tw), (Exp S pre ∧ (S = [] → i = 0) ∨ 0 < i ∧ S = [] ∧ ∃ t, Right pre t) → ∀ {dp' : Int}, rrun l i S dp = some ([], dp') → (l = [] ∧ i = 0 ∧ pre = []) ∨ ∃ t, Right (pre ++ l) t
  | [], i, S, dp, pre, h, dp', hr => by
    rw [rrun] at hr
    injection hr with hr
    have hS : S = [] := (Prod.mk.inj hr).1
    rcases h with ⟨h1, h2⟩ | ⟨_, _, h3⟩
    · subst hS
      cases h1
      exact .inl ⟨rfl, h2 rfl, rfl⟩
    · right; rw [List.append_nil]; exact h3
  | x :: l, i, S, dp, pre, h, dp', hr => by
    rw [rrun] at hr
    split at hr
    · cases hr
    · rename_i hc
      have hfin : fineB x (mayF S) = true := by
        cases hb : fineB x (mayF S)
        · exact absurd (.inr hb) hc
        · rfl
      rcases h with ⟨h1, h2⟩ | ⟨h1, h2, _⟩
      · have h3 := close_exp h1 (x := x) (ds := []) hfin (by simp [oks]) (fine_kids hfin)
        have h4 := rrun_back l (i + 1) (closeF ⟨x.op, 0, x.kids⟩ S) _ (pre ++ [x]) (by
          rcases h3 with h3 | h3
          · by_cases he : closeF ⟨x.op, 0, x.kids⟩ S = []
            · have h5 : Exp [] (pre ++ [x]) := by
                have := h3
                rw [show closeF ⟨x.op, ([] : List Tr).length, x.kids⟩ S = [] from he] at this
                exact this
              generalize hq : pre ++ [x] = q at h5
              cases h5
              simp at hq
            · exact .inl ⟨h3, fun h => absurd h he⟩
          · exact .inr ⟨by omega, h3.1, h3.2⟩) hr
        rcases h4 with ⟨_, h5, _⟩ | h4
        · omega
        · right
          rw [List.append_assoc] at h4
          exact h4
      · exact absurd (.inl ⟨h1, h2⟩) hc
/-- What the document's Check says is wrong. -/
def refE (l : List Tw) : Int :=
  if 2048 < l.length then 2
  else match rrun l 0 [] (-1) with
    | none => 3
    | some (S, dp) => if l = [] ∨ S ≠ [] then 3 else if 0 ≤ dp then 2 else 0
theorem refE_chk (l : List Tw) : refE l = (chk l).2 := by
  unfold refE
  by_cases hlen : 2048 < l.length
  · rw [if_pos hlen, chk_long hlen]
  · rw [if_neg hlen]
    by_cases h : ∃ t, Right l t
    · obtain ⟨t, ht⟩ := h
      obtain ⟨dp', h1, h2⟩ := rrun_tree t 0 [] (-1) ht.1 (.inl rfl)
      rw [ht.2] at h1
      rw [h1, chk_right ht (by omega)]
      have hne : l ≠ [] := by
        intro h3
        have := flat_pos t
        rw [ht.2, h3] at this
        simp at this
      show (if l = [] ∨ bump [] ≠ [] then (3 : Int) else if 0 ≤ dp' then 2 else 0) = _
      rw [if_neg (by
        rintro (h3 | h3)
        · exact hne h3
        · exact h3 rfl)]
      simp at h2
      by_cases hd : t.depth ≤ 40
      · rw [if_neg (by rw [h2]; omega), if_pos hd]
      · rw [if_pos (by rw [h2]; omega), if_neg hd]
    · rw [chk_wrong h (by omega)]
      cases hr : rrun l 0 [] (-1) with
      | none => rfl
      | some r =>
        obtain ⟨S, dp⟩ := r
        dsimp only
        by_cases hc : l = [] ∨ S ≠ []
        · rw [if_pos hc]
        · exfalso
          have hS : S = [] := Classical.byContradiction fun h => hc (.inr h)
          subst hS
          rcases rrun_back l 0 [] (-1) [] (.inl ⟨.nil, fun _ => rfl⟩) hr with ⟨h1, _⟩ | h1
          · exact hc (.inl h1)
          · exact h h1
end Go.Proofs.Ytpdofcjgpomehaa
