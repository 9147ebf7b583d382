/- Plain law of the document's checker: a stack of open twigs. No walk. And what follows from it. -/
import Derived.Deep.QuietTactic
import Derived.BigQuiet
import Derived.Test.YtbcadlocldplfaaMad
import Derived.Test.YtbcadlocldplfaaMah
set_option linter.unusedSimpArgs false
set_option linter.unusedVariables false
namespace Go.Proofs.Ytbcadlocldplfaa.T8

/-- A twig whose parts are going by: its Op, how many came, how many there are. -/
structure Fr where
  op : Nat
  came : Nat
  n : Int
/-- The innermost is closed while all its parts came. -/
def closeF (f : Fr) : List Fr → List Fr
  | [] => if (f.came : Int) = f.n then [] else [f]
  | g :: S => if (f.came : Int) = f.n then closeF { g with came := g.came + 1 } S else f :: g :: S
def partF (f : Fr) (op : Nat) : Bool :=
  match formOf f.op with
  | none => false
  | some x => prtB x.prt f.came f.n.toNat op
def mayF : List Fr → Nat → Bool
  | [], _ => true
  | f :: _, op => partF f op
/-- The checker's steps: where it goes wrong, or what stands open at the end, and how deep it went. -/
def rrun : List Tw → Nat → List Fr → Int → Option (List Fr × Int)
  | [], _, S, dp => some (S, dp)
  | x :: l, i, S, dp =>
    if (0 < i ∧ S = []) ∨ fineB x (mayF S) = false then none
    else rrun l (i + 1) (closeF ⟨x.op, 0, x.kids⟩ S) (if dp < 0 ∧ 40 ≤ S.length then (i : Int) else dp)
theorem rrun_append : ∀ (a b : List Tw) (i : Nat) (S : List Fr) (dp : Int), rrun (a ++ b) i S dp = (rrun a i S dp).bind fun r => rrun b (i + a.length) r.1 r.2
  | [], b, i, S, dp => rfl
  | x :: a, b, i, S, dp => by
    rw [List.cons_append, rrun, rrun]
    split
    · rfl
    · rw [rrun_append a b, List.length_cons, show i + 1 + a.length = i + (a.length + 1) from by omega]
/-- The stack behind a whole part. -/
def bump : List Fr → List Fr
  | [] => []
  | f :: S => closeF { f with came := f.came + 1 } S
theorem closeF_done {f : Fr} (h : (f.came : Int) = f.n) (S : List Fr) : closeF f S = bump S := by
  cases S with
  | nil => rw [closeF, if_pos h]; rfl
  | cons g S => rw [closeF, if_pos h]; rfl
theorem closeF_open {f : Fr} (h : (f.came : Int) ≠ f.n) (S : List Fr) : closeF f S = f :: S := by
  cases S with
  | nil => rw [closeF, if_neg h]
  | cons g S => rw [closeF, if_neg h]
mutual
/-- A tree that may stand here goes through. -/
theorem rrun_tree : ∀ (t : Tr) (i : Nat) (S : List Fr) (dp : Int), t.ok (mayF S) → (i = 0 ∨ S ≠ []) →
    ∃ dp', rrun t.flat i S dp = some (bump S, dp') ∧ (0 ≤ dp' ↔ 0 ≤ dp ∨ 41 ≤ S.length + t.depth)
  | .node x ks, i, S, dp, hok, hi => by
    rw [Tr.ok] at hok
    rw [Tr.flat, rrun, Tr.depth]
    rw [if_neg (by
      rw [hok.1]
      rintro (h | h)
      · rcases hi with h2 | h2
        · omega
        · exact h2 h.2
      · cases h)]
    by_cases hks : ks = []
    · subst hks
      refine ⟨if dp < 0 ∧ 40 ≤ S.length then (i : Int) else dp, ?_, ?_⟩
      · rw [flats, rrun, closeF_done (by rw [hok.2.1]; rfl)]
      · rw [depths]
        split <;> omega
    · have hlen : 0 < ks.length := List.length_pos_iff.2 hks
      rw [closeF_open (by rw [hok.2.1]; simp; omega)]
      obtain ⟨dp', h1, h2⟩ := rrun_forest ks x 0 S (i + 1) (if dp < 0 ∧ 40 ≤ S.length then (i : Int) else dp) hok.2.2 (by rw [hok.2.1]; simp) hks (by omega)
      refine ⟨dp', h1, ?_⟩
      rw [h2]
      split <;> omega
theorem rrun_forest : ∀ (ks : List Tr) (x : Tw) (j : Nat) (S : List Fr) (i : Nat) (dp : Int), oks x j ks → x.kids = (j : Int) + (ks.length : Nat) → ks ≠ [] → 0 < i →
    ∃ dp', rrun (flats ks) i (⟨x.op, j, x.kids⟩ :: S) dp = some (bump S, dp') ∧ (0 ≤ dp' ↔ 0 ≤ dp ∨ 41 ≤ S.length + 1 + depths ks)
  | [], _, _, _, _, _, _, _, h, _ => absurd rfl h
  | k :: ks, x, j, S, i, dp, hok, hn, _, hi => by
    rw [oks] at hok
    have hmay : mayF (⟨x.op, j, x.kids⟩ :: S) = partOf x j := rfl
    obtain ⟨d1, h1, h2⟩ := rrun_tree k i (⟨x.op, j, x.kids⟩ :: S) dp (by rw [hmay]; exact hok.1) (.inr (by simp))
    rw [flats, rrun_append, h1, depths]
    show ∃ dp', rrun (flats ks) (i + k.flat.length) (closeF ⟨x.op, j + 1, x.kids⟩ S) d1 = _ ∧ _
    rw [List.length_cons] at hn h2
    by_cases hks : ks = []
    · subst hks
      rw [closeF_done (by dsimp only; simp at hn ⊢; omega), flats, rrun]
      refine ⟨d1, rfl, ?_⟩
      rw [h2, depths]
      omega
    · have hlen : 0 < ks.length := List.length_pos_iff.2 hks
      rw [closeF_open (by dsimp only; omega)]
      obtain ⟨d2, h3, h4⟩ := rrun_forest ks x (j + 1) S (i + k.flat.length) d1 hok.2 (by omega) hks (by omega)
      refine ⟨d2, h3, ?_⟩
      rw [h4, h2]
      omega
end
theorem oks_snoc : ∀ (ds : List Tr) (x : Tw) (i : Nat) (t : Tr), oks x i ds → t.ok (partOf x (i + ds.length)) → oks x i (ds ++ [t])
  | [], x, i, t, _, h => by
    simp only [List.nil_append, oks, and_true]
    simpa using h
  | d :: ds, x, i, t, h, ht => by
    rw [oks] at h
    rw [List.cons_append, oks]
    refine ⟨h.1, oks_snoc ds x (i + 1) t h.2 ?_⟩
    rw [List.length_cons] at ht
    rw [show i + 1 + ds.length = i + (ds.length + 1) from by omega]
    exact ht
/-- What a stack stands for: twigs that went by, with the parts that came. -/
inductive Exp : List Fr → List Tw → Prop
  | nil : Exp [] []
  | cons {S : List Fr} {pre : List Tw} {x : Tw} {ds : List Tr} : Exp S pre → fineB x (mayF S) = true → oks x 0 ds → (ds.length : Int) < x.kids → Exp (⟨x.op, ds.length, x.kids⟩ :: S) (pre ++ x :: flats ds)
theorem close_exp : ∀ {S : List Fr} {pre : List Tw}, Exp S pre → ∀ {x : Tw} {ds : List Tr}, fineB x (mayF S) = true → oks x 0 ds → (ds.length : Int) ≤ x.kids →
    Exp (closeF ⟨x.op, ds.length, x.kids⟩ S) (pre ++ x :: flats ds) ∨ (closeF ⟨x.op, ds.length, x.kids⟩ S = [] ∧ ∃ t, Right (pre ++ x :: flats ds) t) := by
  intro S pre h
  induction h with
  | nil =>
    intro x ds hf ho hn
    by_cases he : (ds.length : Int) = x.kids
    · right
      refine ⟨by rw [closeF, if_pos he], .node x ds, ?_, ?_⟩
      · rw [Tr.ok]; exact ⟨hf, he.symm, ho⟩
      · rw [Tr.flat]; rfl
    · left
      rw [closeF, if_neg he]
      exact .cons .nil hf ho (by omega)
  | @cons S2 pre2 y es h2 hfy hoy hny ih =>
    intro x ds hf ho hn
    by_cases he : (ds.length : Int) = x.kids
    · rw [closeF, if_pos he]
      have ht : (Tr.node x ds).ok (partOf y (0 + es.length)) := by
        rw [Tr.ok, Nat.zero_add]
        exact ⟨hf, he.symm, ho⟩
      have h3 := ih (x := y) (ds := es ++ [.node x ds]) hfy (oks_snoc es y 0 _ hoy ht) (by simp; omega)
      rw [List.length_append, List.length_cons, List.length_nil, flats_append, flats, flats, Tr.flat, List.append_nil] at h3
      have e : pre2 ++ y :: (flats es ++ x :: flats ds) = pre2 ++ y :: flats es ++ x :: flats ds := by simp
      rw [e] at h3
      exact h3
    · left
      rw [closeF, if_neg he]
      exact .cons (.cons h2 hfy hoy hny) hf ho (by omega)
theorem fine_kids {x : Tw} {may : Nat → Bool} (h : fineB x may = true) : 0 ≤ x.kids := by
  unfold fineB at h
  split at h
  · cases h
  · simp at h; omega
theorem rrun_back : ∀ (l : List Tw) (i : Nat) (S : List Fr) (dp : Int) (pre : List Tw), (Exp S pre ∧ (S = [] → i = 0) ∨ 0 < i ∧ S = [] ∧ ∃ t, Right pre t) → ∀ {dp' : Int}, rrun l i S dp = some ([], dp') → (l = [] ∧ i = 0 ∧ pre = []) ∨ ∃ t, Right (pre ++ l) t
  | [], i, S, dp, pre, h, dp', hr => by
    rw [rrun] at hr
    injection hr with hr
    have hS : S = [] := (Prod.mk.inj hr).1
    rcases h with ⟨h1, h2⟩ | ⟨_, _, h3⟩
    · subst hS
      cases h1
      exact .inl ⟨rfl, h2 rfl, rfl⟩
    · right; rw [List.append_nil]; exact h3
  | x :: l, i, S, dp, pre, h, dp', hr => by
    rw [rrun] at hr
    split at hr
    · cases hr
    · rename_i hc
      have hfin : fineB x (mayF S) = true := by
        cases hb : fineB x (mayF S)
        · exact absurd (.inr hb) hc
        · rfl
      rcases h with ⟨h1, h2⟩ | ⟨h1, h2, _⟩
      · have h3 := close_exp h1 (x := x) (ds := []) hfin (by simp [oks]) (fine_kids hfin)
        have h4 := rrun_back l (i + 1) (closeF ⟨x.op, 0, x.kids⟩ S) _ (pre ++ [x]) (by
          rcases h3 with h3 | h3
          · by_cases he : closeF ⟨x.op, 0, x.kids⟩ S = []
            · have h5 : Exp [] (pre ++ [x]) := by
                have := h3
                rw [show closeF ⟨x.op, ([] : List Tr).length, x.kids⟩ S = [] from he] at this
                exact this
              generalize hq : pre ++ [x] = q at h5
              cases h5
              simp at hq
            · exact .inl ⟨h3, fun h => absurd h he⟩
          · exact .inr ⟨by omega, h3.1, h3.2⟩) hr
        rcases h4 with ⟨_, h5, _⟩ | h4
        · omega
        · right
          rw [List.append_assoc] at h4
          exact h4
      · exact absurd (.inl ⟨h1, h2⟩) hc
/-- What the document's Check says is wrong. -/
def refE (l : List Tw) : Int :=
  if 2048 < l.length then 2
  else match rrun l 0 [] (-1) with
    | none => 3
    | some (S, dp) => if l = [] ∨ S ≠ [] then 3 else if 0 ≤ dp then 2 else 0
theorem refE_chk (l : List Tw) : refE l = (chk l).2 := by
  unfold refE
  by_cases hlen : 2048 < l.length
  · rw [if_pos hlen, chk_long hlen]
  · rw [if_neg hlen]
    by_cases h : ∃ t, Right l t
    · obtain ⟨t, ht⟩ := h
      obtain ⟨dp', h1, h2⟩ := rrun_tree t 0 [] (-1) ht.1 (.inl rfl)
      rw [ht.2] at h1
      rw [h1, chk_right ht (by omega)]
      have hne : l ≠ [] := by
        intro h3
        have := flat_pos t
        rw [ht.2, h3] at this
        simp at this
      show (if l = [] ∨ bump [] ≠ [] then (3 : Int) else if 0 ≤ dp' then 2 else 0) = _
      rw [if_neg (by
        rintro (h3 | h3)
        · exact hne h3
        · exact h3 rfl)]
      simp at h2
      by_cases hd : t.depth ≤ 40
      · rw [if_neg (by rw [h2]; omega), if_pos hd]
      · rw [if_pos (by rw [h2]; omega), if_neg hd]
    · rw [chk_wrong h (by omega)]
      cases hr : rrun l 0 [] (-1) with
      | none => rfl
      | some r =>
        obtain ⟨S, dp⟩ := r
        dsimp only
        by_cases hc : l = [] ∨ S ≠ []
        · rw [if_pos hc]
        · exfalso
          have hS : S = [] := Classical.byContradiction fun h => hc (.inr h)
          subst hS
          rcases rrun_back l 0 [] (-1) [] (.inl ⟨.nil, fun _ => rfl⟩) hr with ⟨h1, _⟩ | h1
          · exact hc (.inl h1)
          · exact h h1
end Go.Proofs.Ytbcadlocldplfaa.T8
namespace Go.Proofs.Ytbcadlocldplfaa.T8
set_option maxRecDepth 100000
open Go.RowKit

def fcell (f : Fr) : List Value := [.int .u8 (f.op : Nat), .int .i64 (f.came : Nat), .int .i64 f.n]
def fcells (S : List Fr) : List Value := S.flatMap fcell
theorem fcells_append (l m : List Fr) : fcells (l ++ m) = fcells l ++ fcells m := by simp [fcells]
theorem fcells_length (l : List Fr) : (fcells l).length = l.length * 3 := by
  induction l with
  | nil => rfl
  | cons x l ih => unfold fcells at ih ⊢; rw [List.flatMap_cons, List.length_append, ih, List.length_cons]; simp [fcell]; omega
theorem Try.info86 : (Try.prog.info? 86).map (fun i => (i.zero, i.size, i.bytes)) = some (some (.agg #[.int .u8 0, .int .i64 0, .int .i64 0]), 3, 24) := by kernel_rfl
/-- 'l = append(l, Open{..})'. -/
theorem wpList_app_open {ops : Array Oper} {rest : List Oper} {o : Oper} {a : Act} {W : World} {Q : Exit → Act → World → Prop} (hgd : o.guard = none) (sl x : Operand)
    (ho : o.op = .call { callee := .builtin .append, args := #[sl, x], argTypes := #[83, 83] }) (base g n cap : Nat) (A : Option Addr) (l : List Fr) (f : Fr)
    (hs : a.eval sl = .slice A n cap) (hown : W.ownsRow base 86 3 (.slice A n cap) n (fcells l)) (hx : a.eval x = .slice (some ⟨g, 0, none⟩) 1 1)
    (hg : W.heap[g]? = some (.cells #[.int .u8 (f.op : Nat), .int .i64 (f.came : Nat), .int .i64 f.n] 86 (0, 0))) (hm : n ≤ 100000) (hb : base ≤ W.heap.size)
    (h : ∀ A' c' W', W'.ownsRow base 86 3 (.slice A' (n + 1) c') (n + 1) (fcells (l ++ [f])) → W.grownBy W' (Value.slice A n cap).ownBlock → wpList Try.prog ops Q rest (a.put o.dst (.slice A' (n + 1) c')) W') :
    wpList Try.prog ops Q (o :: rest) a W := by
  obtain ⟨i0, hi0, hz0, hz1, hz2⟩ := info_parts Try.info86
  refine wpList_append_own _ hgd sl x 83 ho base 86 i0 (.agg #[.int .u8 0, .int .i64 0, .int .i64 0]) 3 24 Try.underlying83 hi0 hz0 hz1 hz2 rfl (by decide) (.slice A n cap) n (fcells l) hs hown ⟨g, 0, none⟩ 1 1 (fcell f) hx rfl (news_of_blk hg) (by intro u hu; simp only [fcell, List.mem_cons, List.not_mem_nil, or_false] at hu; rcases hu with rfl | rfl | rfl <;> rfl) (by unfold maxLen; omega) (by omega) hb ?_
  intro v3 w3 ho3 hg3 _
  obtain ⟨A3, c3, rfl, _⟩ := own_form ho3
  refine h A3 c3 w3 ?_ hg3
  rw [fcells_append]
  have e : fcells [f] = fcell f := by simp [fcells]
  rw [e]
  exact ho3
/-- The innermost's cells are the last. -/
theorem fcells_last {S : List Fr} {f : Fr} {j : Nat} {v : Value} (hv : (fcell f)[j]? = some v) : (fcells (f :: S).reverse)[S.length * 3 + j]? = some v := by
  rw [List.reverse_cons, fcells_append, List.getElem?_append_right (by rw [fcells_length, List.length_reverse]; omega), fcells_length, List.length_reverse, Nat.add_sub_cancel_left]
  simpa [fcells] using hv
theorem fcells_came {S : List Fr} {f : Fr} {k : Nat} : (fcells (f :: S).reverse).set (S.length * 3 + 1) (.int .i64 (k : Nat)) = fcells ({ f with came := k } :: S).reverse := by
  rw [List.reverse_cons, List.reverse_cons, fcells_append, fcells_append, List.set_append_right _ _ (by rw [fcells_length, List.length_reverse]; omega), fcells_length, List.length_reverse, Nat.add_sub_cancel_left]
  rfl
/-- The stack while the innermost are being closed. -/
def close1 : List Fr → List Fr
  | [] => []
  | f :: S => closeF f S
/-- Open twigs are of the table, and none has more parts than it may. -/
def VF (S : List Fr) : Prop := (∀ f ∈ S, f.op < 256 ∧ ∃ x n, formOf f.op = some x ∧ f.n = (n : Nat) ∧ n ≤ x.most ∧ f.came ≤ n) ∧ ∀ f ∈ S.tail, (f.came : Int) < f.n
/-- The innermost is not at its end. -/
def Top1 : List Fr → Prop
  | [] => True
  | f :: _ => (f.came : Int) ≠ f.n
theorem vf_strict {S : List Fr} (h : VF S) (ht : Top1 S) : ∀ f ∈ S, (f.came : Int) < f.n := by
  intro f hf
  cases S with
  | nil => cases hf
  | cons g S =>
    rcases List.mem_cons.1 hf with rfl | hf
    · obtain ⟨x, n, h1, h2, h3, h4⟩ := (h.1 f (List.mem_cons_self ..)).2
      have h5 : (f.came : Int) ≠ f.n := ht
      omega
    · exact h.2 f hf
theorem close1_done {S : List Fr} (h : Top1 S) : close1 S = S := by
  cases S with
  | nil => rfl
  | cons f S => exact closeF_open h S
theorem close1_step {f g : Fr} {S : List Fr} (h : (f.came : Int) = f.n) : close1 (f :: g :: S) = close1 ({ g with came := g.came + 1 } :: S) := by
  show closeF f (g :: S) = closeF { g with came := g.came + 1 } S
  rw [closeF, if_pos h]
theorem fineB_split (x : Tw) (P : Nat → Bool) : fineB x P = (fineB x (fun _ => true) && P x.op) := by
  unfold fineB
  split
  · rfl
  · rename_i f _
    rw [Bool.true_and]
    cases P x.op <;> simp
theorem fine_fr {x : Tw} {P : Nat → Bool} (h : fineB x P = true) : ∃ f n, formOf x.op = some f ∧ x.kids = (n : Nat) ∧ n ≤ f.most := by
  unfold fineB at h
  split at h
  · cases h
  · rename_i f hf
    simp at h
    exact ⟨f, x.kids.toNat, hf, by omega, by omega⟩
end Go.Proofs.Ytbcadlocldplfaa.T8
namespace Go.Proofs.Ytbcadlocldplfaa.T8
set_option maxRecDepth 100000
open Go.RowKit

theorem refExpr_any (op : Nat) (w : World) (h : op < 256) : Calls Try.prog 78 #[.int .u8 (op : Nat)] w fun e w' => e = .returned (.bool (exprB op)) ∧ w' = w := by
  have HC : Hid (exprB op = decide (20 ≤ op ∧ op ≤ 26 ∨ 30 ≤ op ∧ op ≤ 48 ∨ 50 ≤ op ∧ op ≤ 57)) := rfl
  rcases (by omega : op < 20 ∨ (20 ≤ op ∧ op ≤ 26) ∨ (27 ≤ op ∧ op ≤ 29) ∨ (30 ≤ op ∧ op ≤ 48) ∨ op = 49 ∨ (50 ≤ op ∧ op ≤ 57) ∨ 58 ≤ op) with h1 | h1 | h1 | h1 | h1 | h1 | h1
  case inr.inr.inr.inr.inl =>
    subst h1
    go_enter Try.func78, Try.ntmps78
    go_wp2_with fail
    go_ret
    exact ⟨rfl, rfl⟩
  all_goals
    go_enter Try.func78, Try.ntmps78
    go_wp2_with fail
    go_ret
    refine ⟨ret_bool ?_, rfl⟩
    rw [HC.out]
    first | (rw [decide_eq_decide]; omega) | (symm; rw [decide_eq_true_iff]; omega) | (symm; rw [decide_eq_false_iff_not]; omega) | (rw [Bool.eq_iff_iff]; simp only [Bool.or_eq_true, decide_eq_true_eq]; omega)
theorem refStmt_any (op : Nat) (w : World) (h : op < 256) : Calls Try.prog 79 #[.int .u8 (op : Nat)] w fun e w' => e = .returned (.bool (stmtB op)) ∧ w' = w := by
  have HC : Hid (stmtB op = decide (4 ≤ op ∧ op ≤ 11)) := rfl
  rcases (by omega : op < 4 ∨ (4 ≤ op ∧ op ≤ 11) ∨ 12 ≤ op) with h1 | h1 | h1
  all_goals
    go_enter Try.func79, Try.ntmps79
    go_wp2_with fail
    go_ret
    refine ⟨ret_bool ?_, rfl⟩
    rw [HC.out]
    first | (rw [decide_eq_decide]; omega) | (symm; rw [decide_eq_false_iff_not]; omega)

end Go.Proofs.Ytbcadlocldplfaa.T8
namespace Go.Proofs.Ytbcadlocldplfaa.T8
set_option maxRecDepth 100000
open Go.RowKit

def leastF (op : Nat) : Nat := if op = 2 ∨ op = 3 ∨ (20 ≤ op ∧ op ≤ 26) ∨ op = 50 ∨ op = 51 ∨ op = 56 ∨ op = 57 then 0 else if op = 6 ∨ op = 7 ∨ (30 ≤ op ∧ op ≤ 42) then 2 else 1
def mostF (op : Nat) : Int := if op = 1 ∨ op = 3 ∨ op = 25 ∨ op = 50 ∨ op = 51 then -1 else if op = 6 then 3 else (leastF op : Nat)
def namedB (op : Nat) : Bool := decide (op = 1 ∨ op = 2 ∨ op = 4 ∨ op = 5 ∨ op = 26 ∨ op = 56 ∨ op = 50 ∨ op = 51)
theorem eqf {a : Nat} {c : Int} (h : (a : Int) ≠ c) : ((a : Int) == c) = false := by rw [beq_eq_false_iff_ne]; exact h
set_option maxHeartbeats 2000000 in
theorem named_any (op : Nat) (w : World) (h : op < 256) : Calls Try.prog 80 #[.int .u8 (op : Nat)] w fun e w' => e = .returned (.bool (namedB op)) ∧ w' = w := by
  by_cases hn : op = 1 ∨ op = 2 ∨ op = 4 ∨ op = 5 ∨ op = 26 ∨ op = 56 ∨ op = 50 ∨ op = 51
  · have HC := Lib.hid (show namedB op = true from decide_eq_true hn)
    rcases hn with h1 | h1 | h1 | h1 | h1 | h1 | h1 | h1
    all_goals
      subst h1
      go_enter Try.func80, Try.ntmps80
      go_wp2_with fail
      go_ret
      exact ⟨ret_bool HC.out.symm, rfl⟩
  · have HC := Lib.hid (show namedB op = false from decide_eq_false hn)
    have e1 := eqf (a := op) (c := 1) (by omega)
    have e2 := eqf (a := op) (c := 2) (by omega)
    have e4 := eqf (a := op) (c := 4) (by omega)
    have e5 := eqf (a := op) (c := 5) (by omega)
    have e26 := eqf (a := op) (c := 26) (by omega)
    have e56 := eqf (a := op) (c := 56) (by omega)
    have e50 := eqf (a := op) (c := 50) (by omega)
    have e51 := eqf (a := op) (c := 51) (by omega)
    clear hn
    go_enter Try.func80, Try.ntmps80
    go_wp2_with fail
    go_ret
    exact ⟨ret_bool HC.out.symm, rfl⟩
set_option maxHeartbeats 4000000 in
theorem least_any (op : Nat) (w : World) (h : op < 256) : Calls Try.prog 82 #[.int .u8 (op : Nat)] w fun e w' => e = .returned (.int .i64 (leastF op : Nat)) ∧ w' = w := by
  rcases (by omega : op = 2 ∨ op = 3 ∨ op = 50 ∨ op = 51 ∨ op = 56 ∨ op = 57 ∨ op = 6 ∨ op = 7 ∨ (20 ≤ op ∧ op ≤ 26) ∨ (30 ≤ op ∧ op ≤ 42) ∨ (op < 20 ∧ op ≠ 2 ∧ op ≠ 3 ∧ op ≠ 6 ∧ op ≠ 7) ∨ (27 ≤ op ∧ op ≤ 29) ∨ (43 ≤ op ∧ op ≠ 50 ∧ op ≠ 51 ∧ op ≠ 56 ∧ op ≠ 57)) with q | q | q | q | q | q | q | q | q | q | q | q | q
  · have HC := Lib.hid (show leastF op = 0 from if_pos (by omega))
    subst q
    rw [HC.out]
    go_enter Try.func82, Try.ntmps82
    go_wp2_with fail
    go_ret
    exact ⟨rfl, rfl⟩
  · have HC := Lib.hid (show leastF op = 0 from if_pos (by omega))
    subst q
    rw [HC.out]
    go_enter Try.func82, Try.ntmps82
    go_wp2_with fail
    go_ret
    exact ⟨rfl, rfl⟩
  · have HC := Lib.hid (show leastF op = 0 from if_pos (by omega))
    subst q
    rw [HC.out]
    go_enter Try.func82, Try.ntmps82
    go_wp2_with fail
    go_ret
    exact ⟨rfl, rfl⟩
  · have HC := Lib.hid (show leastF op = 0 from if_pos (by omega))
    subst q
    rw [HC.out]
    go_enter Try.func82, Try.ntmps82
    go_wp2_with fail
    go_ret
    exact ⟨rfl, rfl⟩
  · have HC := Lib.hid (show leastF op = 0 from if_pos (by omega))
    subst q
    rw [HC.out]
    go_enter Try.func82, Try.ntmps82
    go_wp2_with fail
    go_ret
    exact ⟨rfl, rfl⟩
  · have HC := Lib.hid (show leastF op = 0 from if_pos (by omega))
    subst q
    rw [HC.out]
    go_enter Try.func82, Try.ntmps82
    go_wp2_with fail
    go_ret
    exact ⟨rfl, rfl⟩
  · have HC := Lib.hid (show leastF op = 2 from (if_neg (by omega)).trans (if_pos (by omega)))
    subst q
    rw [HC.out]
    go_enter Try.func82, Try.ntmps82
    go_wp2_with fail
    go_ret
    exact ⟨rfl, rfl⟩
  · have HC := Lib.hid (show leastF op = 2 from (if_neg (by omega)).trans (if_pos (by omega)))
    subst q
    rw [HC.out]
    go_enter Try.func82, Try.ntmps82
    go_wp2_with fail
    go_ret
    exact ⟨rfl, rfl⟩
  · have HC := Lib.hid (show leastF op = 0 from if_pos (by omega))
    have e2 := eqf (a := op) (c := 2) (by omega)
    have e3 := eqf (a := op) (c := 3) (by omega)
    have e50 := eqf (a := op) (c := 50) (by omega)
    have e51 := eqf (a := op) (c := 51) (by omega)
    have e56 := eqf (a := op) (c := 56) (by omega)
    have e57 := eqf (a := op) (c := 57) (by omega)
    have e6 := eqf (a := op) (c := 6) (by omega)
    have e7 := eqf (a := op) (c := 7) (by omega)
    rw [HC.out]
    go_enter Try.func82, Try.ntmps82
    go_wp2_with fail
    go_ret
    exact ⟨rfl, rfl⟩
  · have HC := Lib.hid (show leastF op = 2 from (if_neg (by omega)).trans (if_pos (by omega)))
    have e2 := eqf (a := op) (c := 2) (by omega)
    have e3 := eqf (a := op) (c := 3) (by omega)
    have e50 := eqf (a := op) (c := 50) (by omega)
    have e51 := eqf (a := op) (c := 51) (by omega)
    have e56 := eqf (a := op) (c := 56) (by omega)
    have e57 := eqf (a := op) (c := 57) (by omega)
    have e6 := eqf (a := op) (c := 6) (by omega)
    have e7 := eqf (a := op) (c := 7) (by omega)
    rw [HC.out]
    go_enter Try.func82, Try.ntmps82
    go_wp2_with fail
    go_ret
    exact ⟨rfl, rfl⟩
  · have HC := Lib.hid (show leastF op = 1 from (if_neg (by omega)).trans (if_neg (by omega)))
    have e2 := eqf (a := op) (c := 2) (by omega)
    have e3 := eqf (a := op) (c := 3) (by omega)
    have e50 := eqf (a := op) (c := 50) (by omega)
    have e51 := eqf (a := op) (c := 51) (by omega)
    have e56 := eqf (a := op) (c := 56) (by omega)
    have e57 := eqf (a := op) (c := 57) (by omega)
    have e6 := eqf (a := op) (c := 6) (by omega)
    have e7 := eqf (a := op) (c := 7) (by omega)
    have q2 : op < 20 := by omega
    clear q
    rw [HC.out]
    go_enter Try.func82, Try.ntmps82
    go_wp2_with fail
    go_ret
    exact ⟨rfl, rfl⟩
  · have HC := Lib.hid (show leastF op = 1 from (if_neg (by omega)).trans (if_neg (by omega)))
    have e2 := eqf (a := op) (c := 2) (by omega)
    have e3 := eqf (a := op) (c := 3) (by omega)
    have e50 := eqf (a := op) (c := 50) (by omega)
    have e51 := eqf (a := op) (c := 51) (by omega)
    have e56 := eqf (a := op) (c := 56) (by omega)
    have e57 := eqf (a := op) (c := 57) (by omega)
    have e6 := eqf (a := op) (c := 6) (by omega)
    have e7 := eqf (a := op) (c := 7) (by omega)
    rw [HC.out]
    go_enter Try.func82, Try.ntmps82
    go_wp2_with fail
    go_ret
    exact ⟨rfl, rfl⟩
  · have HC := Lib.hid (show leastF op = 1 from (if_neg (by omega)).trans (if_neg (by omega)))
    have e2 := eqf (a := op) (c := 2) (by omega)
    have e3 := eqf (a := op) (c := 3) (by omega)
    have e50 := eqf (a := op) (c := 50) (by omega)
    have e51 := eqf (a := op) (c := 51) (by omega)
    have e56 := eqf (a := op) (c := 56) (by omega)
    have e57 := eqf (a := op) (c := 57) (by omega)
    have e6 := eqf (a := op) (c := 6) (by omega)
    have e7 := eqf (a := op) (c := 7) (by omega)
    have q2 : 43 ≤ op := by omega
    clear q
    rw [HC.out]
    go_enter Try.func82, Try.ntmps82
    go_wp2_with fail
    go_ret
    exact ⟨rfl, rfl⟩
set_option maxHeartbeats 4000000 in
theorem most_any (op : Nat) (w : World) (h : op < 256) : Calls Try.prog 83 #[.int .u8 (op : Nat)] w fun e w' => e = .returned (.int .i64 (mostF op)) ∧ w' = w := by
  rcases (by omega : op = 1 ∨ op = 3 ∨ op = 25 ∨ op = 50 ∨ op = 51 ∨ op = 6 ∨ (op ≠ 1 ∧ op ≠ 3 ∧ op ≠ 25 ∧ op ≠ 50 ∧ op ≠ 51 ∧ op ≠ 6)) with q | q | q | q | q | q | q
  · subst q
    have HC := Lib.hid (show mostF 1 = -1 from rfl)
    rw [HC.out]
    go_enter Try.func83, Try.ntmps83
    go_wp2_with fail
    go_ret
    exact ⟨rfl, rfl⟩
  · subst q
    have HC := Lib.hid (show mostF 3 = -1 from rfl)
    rw [HC.out]
    go_enter Try.func83, Try.ntmps83
    go_wp2_with fail
    go_ret
    exact ⟨rfl, rfl⟩
  · subst q
    have HC := Lib.hid (show mostF 25 = -1 from rfl)
    rw [HC.out]
    go_enter Try.func83, Try.ntmps83
    go_wp2_with fail
    go_ret
    exact ⟨rfl, rfl⟩
  · subst q
    have HC := Lib.hid (show mostF 50 = -1 from rfl)
    rw [HC.out]
    go_enter Try.func83, Try.ntmps83
    go_wp2_with fail
    go_ret
    exact ⟨rfl, rfl⟩
  · subst q
    have HC := Lib.hid (show mostF 51 = -1 from rfl)
    rw [HC.out]
    go_enter Try.func83, Try.ntmps83
    go_wp2_with fail
    go_ret
    exact ⟨rfl, rfl⟩
  · subst q
    have HC := Lib.hid (show mostF 6 = 3 from rfl)
    rw [HC.out]
    go_enter Try.func83, Try.ntmps83
    go_wp2_with fail
    go_ret
    exact ⟨rfl, rfl⟩
  · have HC := Lib.hid (show mostF op = (leastF op : Nat) from (if_neg (by omega)).trans (if_neg (by omega)))
    have e1 := eqf (a := op) (c := 1) (by omega)
    have e3 := eqf (a := op) (c := 3) (by omega)
    have e25 := eqf (a := op) (c := 25) (by omega)
    have e50 := eqf (a := op) (c := 50) (by omega)
    have e51 := eqf (a := op) (c := 51) (by omega)
    have e6 := eqf (a := op) (c := 6) (by omega)
    have HL := Lib.hid (least_any op w h)
    rw [HC.out]
    generalize leastF op = lf at *
    clear q
    go_enter Try.func83, Try.ntmps83
    go_wp2_with fail
    refine HL.out.mono ?_
    rintro e w2 ⟨rfl, hw2⟩
    rw [hw2]
    clear hw2 w2
    go_wp2_with fail
    go_ret
    exact ⟨rfl, rfl⟩
theorem most_pos {op : Nat} {f : Form} (h : formOf op = some f) (hm : 0 < f.most) (h1 : op ≠ 1) (h3 : op ≠ 3) (h6 : op ≠ 6) (h7 : op ≠ 7) (h53 : op ≠ 53) : f.prt = 63 := by
  have key : ∀ op, op < 58 → (formOf op).all (fun f => decide (f.most = 0) || decide (f.prt = 63) || decide (op = 1) || decide (op = 3) || decide (op = 6) || decide (op = 7) || decide (op = 53)) = true := by decide
  have hop := (forms_ok h).1
  have h2 := key op (by omega)
  rw [h] at h2
  simp [Option.all] at h2
  omega
set_option maxHeartbeats 4000000 in
theorem refPart_any (up i n op : Nat) (f : Form) (w : World) (hf : formOf up = some f) (hi : i < n) (hn : n ≤ f.most) (h : op < 256) :
    Calls Try.prog 52 #[.int .u8 (up : Nat), .int .i64 (i : Nat), .int .i64 (n : Nat), .int .u8 (op : Nat)] w fun e w' => e = .returned (.bool (prtB f.prt i n op)) ∧ w' = w := by
  have hfo := forms_ok hf
  have hup : up < 256 := by omega
  have hn2 : n ≤ 2048 := by omega
  have HS := Lib.hid (refStmt_any op w h)
  have HX := Lib.hid (refExpr_any op w h)
  rcases (by omega : up = 1 ∨ up = 3 ∨ up = 6 ∨ up = 7 ∨ up = 53 ∨ (up ≠ 1 ∧ up ≠ 3 ∧ up ≠ 6 ∧ up ≠ 7 ∧ up ≠ 53)) with q | q | q | q | q | q
  · subst q
    have hf2 : f = ⟨56, 1, 2048, 57⟩ := by injection hf with hf; exact hf.symm
    subst hf2
    dsimp only
    have HC : Hid (prtB 57 i n op = decide ((i + 1 < n ∧ op = 2) ∨ (i + 1 = n ∧ op = 3))) := rfl
    by_cases h1 : i + 1 = n
    · have d1 : ((i : Int) == (n : Int) - 1) = true := by rw [beq_iff_eq]; omega
      have HR := Lib.hid (show decide ((i + 1 < n ∧ op = 2) ∨ (i + 1 = n ∧ op = 3)) = ((op : Int) == 3) from by rw [Bool.eq_iff_iff, decide_eq_true_iff, beq_iff_eq]; omega)
      clear h1 hf hfo hn
      go_enter Try.func52, Try.ntmps52
      go_wp2_with fail
      go_ret
      exact ⟨ret_bool (by rw [HC.out, HR.out]), rfl⟩
    · have d1 : ((i : Int) == (n : Int) - 1) = false := by rw [beq_eq_false_iff_ne]; omega
      have HR := Lib.hid (show decide ((i + 1 < n ∧ op = 2) ∨ (i + 1 = n ∧ op = 3)) = ((op : Int) == 2) from by rw [Bool.eq_iff_iff, decide_eq_true_iff, beq_iff_eq]; omega)
      clear h1 hf hfo hn
      go_enter Try.func52, Try.ntmps52
      go_wp2_with fail
      go_ret
      exact ⟨ret_bool (by rw [HC.out, HR.out]), rfl⟩
  · subst q
    have hf2 : f = ⟨59, 0, 2048, 60⟩ := by injection hf with hf; exact hf.symm
    subst hf2
    dsimp only
    have HC : Hid (prtB 60 i n op = stmtB op) := rfl
    clear hf hfo hn
    go_enter Try.func52, Try.ntmps52
    go_wp2_with fail
    refine HS.out.mono ?_
    rintro e w2 ⟨rfl, hw2⟩
    rw [hw2]
    clear hw2 w2
    go_wp2_with fail
    go_ret
    exact ⟨ret_bool HC.out.symm, rfl⟩
  · subst q
    have hf2 : f = ⟨59, 2, 3, 61⟩ := by injection hf with hf; exact hf.symm
    subst hf2
    dsimp only
    have HC : Hid (prtB 61 i n op = (decide (i = 0) && exprB op || decide (0 < i ∧ op = 3))) := rfl
    by_cases h0 : 0 < i
    · have d1 : decide ((0 : Int) < (i : Int)) = true := decide_eq_true (by omega)
      have HR := Lib.hid (show (decide (i = 0) && exprB op || decide (0 < i ∧ op = 3)) = ((op : Int) == 3) from by
        rw [decide_eq_false (show ¬ i = 0 from by omega), Bool.false_and, Bool.false_or, Bool.eq_iff_iff, decide_eq_true_iff, beq_iff_eq]; omega)
      clear hf hfo hn
      go_enter Try.func52, Try.ntmps52
      go_wp2_with fail
      go_ret
      exact ⟨ret_bool (by rw [HC.out, HR.out]), rfl⟩
    · have d1 : decide ((0 : Int) < (i : Int)) = false := decide_eq_false (by omega)
      have HR := Lib.hid (show (decide (i = 0) && exprB op || decide (0 < i ∧ op = 3)) = exprB op from by
        rw [decide_eq_true (show i = 0 from by omega), decide_eq_false (show ¬ (0 < i ∧ op = 3) from by omega)]; simp)
      clear hf hfo hn
      go_enter Try.func52, Try.ntmps52
      go_wp2_with fail
      refine HX.out.mono ?_
      rintro e w2 ⟨rfl, hw2⟩
      rw [hw2]
      clear hw2 w2
      go_wp2_with fail
      go_ret
      exact ⟨ret_bool (by rw [HC.out, HR.out]), rfl⟩
  · subst q
    have hf2 : f = ⟨59, 2, 2, 61⟩ := by injection hf with hf; exact hf.symm
    subst hf2
    dsimp only
    have HC : Hid (prtB 61 i n op = (decide (i = 0) && exprB op || decide (0 < i ∧ op = 3))) := rfl
    by_cases h0 : 0 < i
    · have d1 : decide ((0 : Int) < (i : Int)) = true := decide_eq_true (by omega)
      have HR := Lib.hid (show (decide (i = 0) && exprB op || decide (0 < i ∧ op = 3)) = ((op : Int) == 3) from by
        rw [decide_eq_false (show ¬ i = 0 from by omega), Bool.false_and, Bool.false_or, Bool.eq_iff_iff, decide_eq_true_iff, beq_iff_eq]; omega)
      clear hf hfo hn
      go_enter Try.func52, Try.ntmps52
      go_wp2_with fail
      go_ret
      exact ⟨ret_bool (by rw [HC.out, HR.out]), rfl⟩
    · have d1 : decide ((0 : Int) < (i : Int)) = false := decide_eq_false (by omega)
      have HR := Lib.hid (show (decide (i = 0) && exprB op || decide (0 < i ∧ op = 3)) = exprB op from by
        rw [decide_eq_true (show i = 0 from by omega), decide_eq_false (show ¬ (0 < i ∧ op = 3) from by omega)]; simp)
      clear hf hfo hn
      go_enter Try.func52, Try.ntmps52
      go_wp2_with fail
      refine HX.out.mono ?_
      rintro e w2 ⟨rfl, hw2⟩
      rw [hw2]
      clear hw2 w2
      go_wp2_with fail
      go_ret
      exact ⟨ret_bool (by rw [HC.out, HR.out]), rfl⟩
  · subst q
    have hf2 : f = ⟨59, 1, 1, 64⟩ := by injection hf with hf; exact hf.symm
    subst hf2
    dsimp only
    have HC := Lib.hid (show prtB 64 i n op = ((op : Int) == 3) from by
      show decide (op = 3) = _
      rw [Bool.eq_iff_iff, decide_eq_true_iff, beq_iff_eq]; omega)
    clear hf hfo hn
    go_enter Try.func52, Try.ntmps52
    go_wp2_with fail
    go_ret
    exact ⟨ret_bool HC.out.symm, rfl⟩
  · have h40 := most_pos hf (by omega) q.1 q.2.1 q.2.2.1 q.2.2.2.1 q.2.2.2.2
    rw [h40]
    have HC : Hid (prtB 63 i n op = exprB op) := rfl
    have e1 := eqf (a := up) (c := 1) (by omega)
    have e3 := eqf (a := up) (c := 3) (by omega)
    have e6 := eqf (a := up) (c := 6) (by omega)
    have e7 := eqf (a := up) (c := 7) (by omega)
    have e53 := eqf (a := up) (c := 53) (by omega)
    clear q h40 hf hfo hn
    go_enter Try.func52, Try.ntmps52
    go_wp2_with fail
    refine HX.out.mono ?_
    rintro e w2 ⟨rfl, hw2⟩
    rw [hw2]
    clear hw2 w2
    go_wp2_with fail
    go_ret
    exact ⟨ret_bool HC.out.symm, rfl⟩
end Go.Proofs.Ytbcadlocldplfaa.T8
namespace Go.Proofs.Ytbcadlocldplfaa.T8
set_option maxRecDepth 100000
open Go.RowKit

theorem fst_get {s : List UInt8} (h : 0 < s.length) : fstC s = decide (97 ≤ (s[0]'h).toNat ∧ (s[0]'h).toNat ≤ 122) := by
  cases s with
  | nil => simp at h
  | cons c tl => rfl
set_option maxHeartbeats 8000000 in
theorem refName_list (s : List UInt8) (w : World) (hs : s.length ≤ 9223372036854775807) : Calls Try.prog 95 #[.string ⟨s.toArray⟩] w fun e w' => e = .returned (.bool (nameB s)) ∧ w' = w := by
  obtain ⟨st, hst⟩ : ∃ st : ByteArray, st = ⟨s.toArray⟩ := ⟨_, rfl⟩
  have hsz : st.size = s.length := by rw [hst]; rfl
  obtain ⟨n, hn⟩ : ∃ n, n = s.length := ⟨_, rfl⟩
  rw [← hst]
  rw [← hn] at hsz hs
  have HST := Lib.hid hst
  have HN := Lib.hid hn
  have HB : Hid (nameB s = (decide (s.length ≤ 24) && fstC s && s.all inC)) := rfl
  obtain ⟨R, hR⟩ : ∃ R, R = nameB s := ⟨_, rfl⟩
  rw [← hR] at HB ⊢
  clear hst hn hR
  by_cases h0 : n < 1
  · have d0 : decide ((n : Int) < 1) = true := decide_eq_true (by omega)
    have HR := Lib.hid (show R = false from by
      have h : s = [] := List.eq_nil_of_length_eq_zero (by have := HN.out; omega)
      rw [HB.out, h]; rfl)
    go_enter Try.func95, Try.ntmps95
    go_wp2_with fail
    go_ret
    exact ⟨ret_bool HR.out.symm, rfl⟩
  · have d0 : decide ((n : Int) < 1) = false := decide_eq_false (by omega)
    by_cases h24 : 24 < n
    · have d1 : decide ((24 : Int) < (n : Int)) = true := decide_eq_true (by omega)
      have HR := Lib.hid (show R = false from by rw [HB.out, decide_eq_false (by rw [← HN.out]; omega)]; rfl)
      go_enter Try.func95, Try.ntmps95
      go_wp2_with fail
      go_ret
      exact ⟨ret_bool HR.out.symm, rfl⟩
    · have d1 : decide ((24 : Int) < (n : Int)) = false := decide_eq_false (by omega)
      have HR := Lib.hid (show R = (fstC s && s.all inC) from by rw [HB.out, decide_eq_true (by rw [← HN.out]; omega)]; rfl)
      clear HB
      go_enter Try.func95, Try.ntmps95
      go_wp2_with fail
      go_loopw [3, 4, 5] (fun s3 s4 s5 wr => wr = w ∧ ∃ k : Nat, s3 = .int .i64 k ∧ k ≤ n ∧ (s.take k).all inC = true ∧ (0 < k → fstC s = true)) (fun s3 _ _ _ => n - (intOf s3).toNat)
      case atStart => exact ⟨rfl, 0, rfl, by omega, rfl, fun h => by omega⟩
      case round =>
        obtain ⟨rfl, k, rfl, hkn, hall, hfst⟩ := hrel
        have HA := Lib.hid (And.intro hall hfst)
        clear hall hfst
        by_cases hlt : k < n
        · have hks : k < s.length := by rw [← HN.out]; exact hlt
          obtain ⟨ch, hch⟩ : ∃ c, c = s[k] := ⟨_, rfl⟩
          have hkst : k < st.size := by omega
          have hg : st[k] = ch := by rw [hch]; exact st_get HST.out hkst hks
          have HCH := Lib.hid (show s.take (k + 1) = s.take k ++ [ch] from by rw [List.take_succ_eq_append_getElem hks, hch])
          have HBAD := Lib.hid (show inC ch = false → s.all inC = false from fun h => by
            rw [List.all_eq_false]
            exact ⟨ch, by rw [hch]; exact List.getElem_mem hks, by rw [h]; simp⟩)
          have HFS := Lib.hid (show k = 0 → fstC s = decide (97 ≤ ch.toNat ∧ ch.toNat ≤ 122) from fun h => by
            subst h
            rw [hch]
            exact fst_get hks)
          clear hch hks
          obtain ⟨x, hx⟩ : ∃ v, v = ch.toNat := ⟨_, rfl⟩
          have HI := Lib.hid (show inC ch = decide ((97 ≤ x ∧ x ≤ 122) ∨ (48 ≤ x ∧ x ≤ 57) ∨ x = 95) from by rw [hx]; rfl)
          have hx2 : st[k].toNat = x := by rw [hg, hx]
          rw [← hx] at HFS
          clear hx hg
          have hk0 : (0 : Int) ≤ (k : Int) := by omega
          have hkn2 : (k : Int) < (n : Int) := by omega
          have hd1 : decide ((k : Int) < (n : Int)) = true := decide_eq_true hkn2
          rcases (by omega : x < 48 ∨ (48 ≤ x ∧ x ≤ 57) ∨ (58 ≤ x ∧ x ≤ 94) ∨ x = 95 ∨ x = 96 ∨ (97 ≤ x ∧ x ≤ 122) ∨ 123 ≤ x) with q | q | q | q | q | q | q
          · have f1 : decide ((97 : Int) ≤ (x : Int)) = false := decide_eq_false (by omega)
            have f2 : decide ((x : Int) ≤ 122) = true := decide_eq_true (by omega)
            have f3 : decide ((48 : Int) ≤ (x : Int)) = false := decide_eq_false (by omega)
            have f4 : decide ((x : Int) ≤ 57) = true := decide_eq_true (by omega)
            have f5 : ((x : Int) == 95) = false := by rw [beq_eq_false_iff_ne]; omega
            by_cases hkz : k = 0
            · have hkb : ((k : Int) == 0) = true := by rw [hkz]; rfl
              have HRF := Lib.hid (show R = false from by rw [HR.out, HFS.out hkz, decide_eq_false (by omega)]; rfl)
              clear hkz
              go_wp2_with fail
              go_ret
              exact ⟨ret_bool HRF.out.symm, rfl⟩
            · have hkb : ((k : Int) == 0) = false := by rw [beq_eq_false_iff_ne]; omega
              have HRF := Lib.hid (show R = false from by rw [HR.out, HBAD.out (by rw [HI.out, decide_eq_false (by omega)])]; simp)
              clear hkz
              go_wp2_with fail
              go_ret
              exact ⟨ret_bool HRF.out.symm, rfl⟩
          · have f1 : decide ((97 : Int) ≤ (x : Int)) = false := decide_eq_false (by omega)
            have f2 : decide ((x : Int) ≤ 122) = true := decide_eq_true (by omega)
            have f3 : decide ((48 : Int) ≤ (x : Int)) = true := decide_eq_true (by omega)
            have f4 : decide ((x : Int) ≤ 57) = true := decide_eq_true (by omega)
            have f5 : ((x : Int) == 95) = false := by rw [beq_eq_false_iff_ne]; omega
            by_cases hkz : k = 0
            · have hkb : ((k : Int) == 0) = true := by rw [hkz]; rfl
              have HRF := Lib.hid (show R = false from by rw [HR.out, HFS.out hkz, decide_eq_false (by omega)]; rfl)
              clear hkz
              go_wp2_with fail
              go_ret
              exact ⟨ret_bool HRF.out.symm, rfl⟩
            · have hkb : ((k : Int) == 0) = false := by rw [beq_eq_false_iff_ne]; omega
              have HIN := Lib.hid (show inC ch = true from by rw [HI.out, decide_eq_true (by omega)])
              have HF1 := Lib.hid (HA.out.2 (by omega))
              clear hkz
              go_wp2_with fail
              go_roundw
              case rel => exact ⟨trivial, k + 1, by go_num, by omega, by rw [HCH.out, List.all_append, HA.out.1, List.all_cons, HIN.out]; rfl, fun _ => HF1.out⟩
              case measure => simp [intOf]; omega
          · have f1 : decide ((97 : Int) ≤ (x : Int)) = false := decide_eq_false (by omega)
            have f2 : decide ((x : Int) ≤ 122) = true := decide_eq_true (by omega)
            have f3 : decide ((48 : Int) ≤ (x : Int)) = true := decide_eq_true (by omega)
            have f4 : decide ((x : Int) ≤ 57) = false := decide_eq_false (by omega)
            have f5 : ((x : Int) == 95) = false := by rw [beq_eq_false_iff_ne]; omega
            by_cases hkz : k = 0
            · have hkb : ((k : Int) == 0) = true := by rw [hkz]; rfl
              have HRF := Lib.hid (show R = false from by rw [HR.out, HFS.out hkz, decide_eq_false (by omega)]; rfl)
              clear hkz
              go_wp2_with fail
              go_ret
              exact ⟨ret_bool HRF.out.symm, rfl⟩
            · have hkb : ((k : Int) == 0) = false := by rw [beq_eq_false_iff_ne]; omega
              have HRF := Lib.hid (show R = false from by rw [HR.out, HBAD.out (by rw [HI.out, decide_eq_false (by omega)])]; simp)
              clear hkz
              go_wp2_with fail
              go_ret
              exact ⟨ret_bool HRF.out.symm, rfl⟩
          · have f1 : decide ((97 : Int) ≤ (x : Int)) = false := decide_eq_false (by omega)
            have f2 : decide ((x : Int) ≤ 122) = true := decide_eq_true (by omega)
            have f3 : decide ((48 : Int) ≤ (x : Int)) = true := decide_eq_true (by omega)
            have f4 : decide ((x : Int) ≤ 57) = false := decide_eq_false (by omega)
            have f5 : ((x : Int) == 95) = true := by rw [beq_iff_eq]; omega
            by_cases hkz : k = 0
            · have hkb : ((k : Int) == 0) = true := by rw [hkz]; rfl
              have HRF := Lib.hid (show R = false from by rw [HR.out, HFS.out hkz, decide_eq_false (by omega)]; rfl)
              clear hkz
              go_wp2_with fail
              go_ret
              exact ⟨ret_bool HRF.out.symm, rfl⟩
            · have hkb : ((k : Int) == 0) = false := by rw [beq_eq_false_iff_ne]; omega
              have HIN := Lib.hid (show inC ch = true from by rw [HI.out, decide_eq_true (by omega)])
              have HF1 := Lib.hid (HA.out.2 (by omega))
              clear hkz
              go_wp2_with fail
              go_roundw
              case rel => exact ⟨trivial, k + 1, by go_num, by omega, by rw [HCH.out, List.all_append, HA.out.1, List.all_cons, HIN.out]; rfl, fun _ => HF1.out⟩
              case measure => simp [intOf]; omega
          · have f1 : decide ((97 : Int) ≤ (x : Int)) = false := decide_eq_false (by omega)
            have f2 : decide ((x : Int) ≤ 122) = true := decide_eq_true (by omega)
            have f3 : decide ((48 : Int) ≤ (x : Int)) = true := decide_eq_true (by omega)
            have f4 : decide ((x : Int) ≤ 57) = false := decide_eq_false (by omega)
            have f5 : ((x : Int) == 95) = false := by rw [beq_eq_false_iff_ne]; omega
            by_cases hkz : k = 0
            · have hkb : ((k : Int) == 0) = true := by rw [hkz]; rfl
              have HRF := Lib.hid (show R = false from by rw [HR.out, HFS.out hkz, decide_eq_false (by omega)]; rfl)
              clear hkz
              go_wp2_with fail
              go_ret
              exact ⟨ret_bool HRF.out.symm, rfl⟩
            · have hkb : ((k : Int) == 0) = false := by rw [beq_eq_false_iff_ne]; omega
              have HRF := Lib.hid (show R = false from by rw [HR.out, HBAD.out (by rw [HI.out, decide_eq_false (by omega)])]; simp)
              clear hkz
              go_wp2_with fail
              go_ret
              exact ⟨ret_bool HRF.out.symm, rfl⟩
          · have f1 : decide ((97 : Int) ≤ (x : Int)) = true := decide_eq_true (by omega)
            have f2 : decide ((x : Int) ≤ 122) = true := decide_eq_true (by omega)
            have f3 : decide ((48 : Int) ≤ (x : Int)) = true := decide_eq_true (by omega)
            have f4 : decide ((x : Int) ≤ 57) = false := decide_eq_false (by omega)
            have f5 : ((x : Int) == 95) = false := by rw [beq_eq_false_iff_ne]; omega
            have HIN := Lib.hid (show inC ch = true from by rw [HI.out, decide_eq_true (by omega)])
            have HF1 := Lib.hid (show fstC s = true from by
              by_cases hk : k = 0
              · rw [HFS.out hk, decide_eq_true (by omega)]
              · exact HA.out.2 (by omega))
            by_cases hkz : k = 0
            · have hkb : ((k : Int) == 0) = true := by rw [hkz]; rfl
              clear hkz
              go_wp2_with fail
              go_roundw
              case rel => exact ⟨trivial, k + 1, by go_num, by omega, by rw [HCH.out, List.all_append, HA.out.1, List.all_cons, HIN.out]; rfl, fun _ => HF1.out⟩
              case measure => simp [intOf]; omega
            · have hkb : ((k : Int) == 0) = false := by rw [beq_eq_false_iff_ne]; omega
              clear hkz
              go_wp2_with fail
              go_roundw
              case rel => exact ⟨trivial, k + 1, by go_num, by omega, by rw [HCH.out, List.all_append, HA.out.1, List.all_cons, HIN.out]; rfl, fun _ => HF1.out⟩
              case measure => simp [intOf]; omega
          · have f1 : decide ((97 : Int) ≤ (x : Int)) = true := decide_eq_true (by omega)
            have f2 : decide ((x : Int) ≤ 122) = false := decide_eq_false (by omega)
            have f3 : decide ((48 : Int) ≤ (x : Int)) = true := decide_eq_true (by omega)
            have f4 : decide ((x : Int) ≤ 57) = false := decide_eq_false (by omega)
            have f5 : ((x : Int) == 95) = false := by rw [beq_eq_false_iff_ne]; omega
            by_cases hkz : k = 0
            · have hkb : ((k : Int) == 0) = true := by rw [hkz]; rfl
              have HRF := Lib.hid (show R = false from by rw [HR.out, HFS.out hkz, decide_eq_false (by omega)]; rfl)
              clear hkz
              go_wp2_with fail
              go_ret
              exact ⟨ret_bool HRF.out.symm, rfl⟩
            · have hkb : ((k : Int) == 0) = false := by rw [beq_eq_false_iff_ne]; omega
              have HRF := Lib.hid (show R = false from by rw [HR.out, HBAD.out (by rw [HI.out, decide_eq_false (by omega)])]; simp)
              clear hkz
              go_wp2_with fail
              go_ret
              exact ⟨ret_bool HRF.out.symm, rfl⟩
        · have hke : k = n := by omega
          have hd1 : decide ((k : Int) < (n : Int)) = false := decide_eq_false (by omega)
          have HRT := Lib.hid (show R = true from by
            have h := HA.out.1
            rw [List.take_of_length_le (by rw [← HN.out]; omega)] at h
            rw [HR.out, h, HA.out.2 (by omega)]; rfl)
          clear hke
          go_wp2_with fail
          go_ret
          exact ⟨ret_bool HRT.out.symm, rfl⟩
theorem refName_any (s : ByteArray) (w : World) (hs : s.size ≤ 9223372036854775807) : Calls Try.prog 95 #[.string s] w fun e w' => e = .returned (.bool (nameB s.toList)) ∧ w' = w := by
  have h := refName_list s.toList w (by rw [ByteArray.toList_eq]; exact hs)
  rw [show (⟨s.toList.toArray⟩ : ByteArray) = s by rw [ByteArray.toList_eq]] at h
  exact h
end Go.Proofs.Ytbcadlocldplfaa.T8
namespace Go.Proofs.Ytbcadlocldplfaa.T8
set_option maxRecDepth 100000
open Go.RowKit

/-- The document's table, twig by twig. -/
def fineR (x : Tw) : Bool :=
  (exprB x.op || stmtB x.op || decide (1 ≤ x.op ∧ x.op ≤ 3)) && ((if namedB x.op then (nameB x.text.toList && !kw x.text.toList) else if x.op = 24 then decide (x.text.size ≤ 4095) else x.text.toList.isEmpty) &&
    (decide (0 ≤ x.int ∧ (x.int = 0 ∨ x.op = 23)) && (decide ((leastF x.op : Int) ≤ x.kids) && decide (mostF x.op < 0 ∧ x.kids ≤ 2048 ∨ 0 ≤ mostF x.op ∧ x.kids ≤ mostF x.op))))
def tabOk (op : Nat) : Bool :=
  match formOf op with
  | none => !exprB op && !stmtB op && !decide (1 ≤ op ∧ op ≤ 3)
  | some f => (exprB op || stmtB op || decide (1 ≤ op ∧ op ≤ 3)) && decide (f.least = leastF op) && decide ((mostF op < 0 ∧ f.most = 2048) ∨ (0 ≤ mostF op ∧ mostF op = (f.most : Nat))) && decide ((namedB op = true ∧ f.txt = 56) ∨ (namedB op = false ∧ op = 24 ∧ f.txt = 62) ∨ (namedB op = false ∧ op ≠ 24 ∧ f.txt = 59))
theorem leastF_le (op : Nat) : leastF op ≤ 2 := by
  unfold leastF
  split
  · omega
  · split <;> omega
theorem fineR_eq (x : Tw) : fineR x = fineB x (fun _ => true) := by
  obtain ⟨op, kids, int, text⟩ := x
  unfold fineR fineB
  dsimp only
  by_cases hop : op < 58
  · have key : ∀ op, op < 58 → tabOk op = true := by decide
    have h := key op hop
    unfold tabOk at h
    cases hf : formOf op with
    | none =>
      rw [hf] at h
      simp only [Bool.and_eq_true, Bool.not_eq_true', decide_eq_false_iff_not] at h
      rw [h.1.1, h.1.2, decide_eq_false h.2]
      rfl
    | some f =>
      rw [hf] at h
      simp only [Bool.and_eq_true, decide_eq_true_eq] at h
      obtain ⟨⟨⟨h1, h2⟩, h3⟩, h4⟩ := h
      rw [h1, Bool.true_and]
      dsimp only
      rw [h2]
      have e1 : (if namedB op = true then (nameB text.toList && !kw text.toList) else if op = 24 then decide (text.size ≤ 4095) else text.toList.isEmpty) = txtB f.txt text := by
        rcases h4 with ⟨a, b⟩ | ⟨a, b, c⟩ | ⟨a, b, c⟩
        · rw [a, b]; rfl
        · rw [a, c, b]; rfl
        · rw [a, c, if_neg (by simp), if_neg b]; rfl
      rw [e1]
      have e2 : decide (mostF op < 0 ∧ kids ≤ 2048 ∨ 0 ≤ mostF op ∧ kids ≤ mostF op) = decide (kids ≤ (f.most : Int)) := by
        rw [decide_eq_decide]; omega
      rw [e2]
      have e3 : decide (0 ≤ int ∧ (int = 0 ∨ op = 23)) = (decide (op = 23 ∨ int = 0) && decide (0 ≤ int)) := by
        rw [Bool.eq_iff_iff]; simp only [Bool.and_eq_true, decide_eq_true_eq]; omega
      rw [e3]
      cases decide ((leastF op : Int) ≤ kids) <;> cases decide (kids ≤ (f.most : Int)) <;> cases decide (op = 23 ∨ int = 0) <;> cases decide (0 ≤ int) <;> rfl
  · rw [formOf_big (by omega)]
    have h1 : exprB op = false := decide_eq_false (by omega)
    have h2 : stmtB op = false := decide_eq_false (by omega)
    rw [h1, h2, decide_eq_false (by omega)]
    rfl
theorem refOwn_any (s : ByteArray) (w : World) (hs : s.size ≤ 9223372036854775807) : Calls Try.prog 81 #[.string s] w fun e w' => e = .returned (.bool (nameB s.toList && !kw s.toList)) ∧ Below w.heap.size w w' := by
  have HN := Lib.hid (refName_any s w hs)
  have HK := Lib.hid (refKeyword_any s w)
  generalize nameB s.toList = a at *
  generalize kw s.toList = b at *
  go_enter Try.func81, Try.ntmps81
  go_wp2_with fail
  refine HN.out.mono ?_
  rintro e w2 ⟨rfl, hw2⟩
  rw [hw2]
  clear hw2 w2
  cases a
  · go_wp2_with fail
    go_ret
    exact ⟨rfl, Below.refl _ _⟩
  · go_wp2_with fail
    refine HK.out.mono ?_
    rintro e w2 ⟨rfl, hw2⟩
    have HB := Lib.hid (show Below w.heap.size w w2 from by rw [← hw2]; exact (Below.refl _ _).alloc (Nat.le_refl _) _)
    clear hw2
    go_wp2_with fail
    go_ret
    exact ⟨ret_bool (by simp), HB.out⟩
end Go.Proofs.Ytbcadlocldplfaa.T8
namespace Go.Proofs.Ytbcadlocldplfaa.T8
set_option maxRecDepth 100000
open Go.RowKit

set_option maxRecDepth 100000 in
set_option maxHeartbeats 8000000 in
theorem refFine_1 (x : Tw) (w : World) (hx : TwOk x) (heb0 : exprB x.op = true) : Calls Try.prog 51 #[.agg (twCells x)] w fun e w' => e = .returned (.bool (fineB x (fun _ => true))) ∧ Below w.heap.size w w' := by
  rw [← fineR_eq]
  obtain ⟨op, kids, int, text⟩ := x
  obtain ⟨o1, o2, o3, o4, o5, o6⟩ := hx
  dsimp only at o1 o2 o3 o4 o5 o6 heb0
  have HBK := Lib.hid (Blk.new w 40 (twCells ⟨op, kids, int, text⟩))
  have HB0 := Lib.hid ((Below.refl w.heap.size w).alloc (Nat.le_refl _) (.cells (twCells ⟨op, kids, int, text⟩) 40))
  have HE := Lib.hid (fun W => refExpr_any op W o1)
  have HS := Lib.hid (fun W => refStmt_any op W o1)
  have HN := Lib.hid (fun W => named_any op W o1)
  have HO := Lib.hid (fun W => refOwn_any text W (by unfold maxLen at o6; omega))
  have HL := Lib.hid (fun W => least_any op W o1)
  have HM := Lib.hid (fun W => most_any op W o1)
  obtain ⟨R, hR⟩ : ∃ R, R = fineR ⟨op, kids, int, text⟩ := ⟨_, rfl⟩
  rw [← hR]
  unfold fineR at hR
  dsimp only at hR
  have HR := Lib.hid hR
  have o7 : text.size ≤ 9223372036854775807 := by unfold maxLen at o6; omega
  clear hR o6
  obtain ⟨lf, hlf⟩ : ∃ z, z = leastF op := ⟨_, rfl⟩
  have hlf2 : lf ≤ 2 := by rw [hlf]; exact leastF_le op
  obtain ⟨mf, hmf⟩ : ∃ z, z = mostF op := ⟨_, rfl⟩
  rw [← hlf] at HR HL
  rw [← hmf] at HR HM
  rw [heb0] at HR HE
  obtain ⟨sb, hsb⟩ : ∃ z, z = stmtB op := ⟨_, rfl⟩
  obtain ⟨nb, hnb⟩ : ∃ z, z = namedB op := ⟨_, rfl⟩
  obtain ⟨ob, hob⟩ : ∃ z, z = (nameB text.toList && !kw text.toList) := ⟨_, rfl⟩
  rw [← hsb] at HR HS
  rw [← hnb] at HR HN
  rw [← hob] at HR HO
  clear hlf hmf heb0 hsb hnb hob
  dsimp only [twCells] at HBK HB0 ⊢
  go_enter Try.func51, Try.ntmps51
  go_wp2_with fail
  generalize w.alloc (.cells #[.int .u8 (op : Nat), .int .i64 kids, .int .i64 int, .string text] 40) = w0 at *
  obtain ⟨bx, hbx⟩ : ∃ g, g = w.heap.size := ⟨_, rfl⟩
  rw [← hbx] at HBK ⊢
  clear hbx
  have HX : Hid (Blk w0 bx 40 #[.int .u8 (op : Nat), .int .i64 kids, .int .i64 int, .string text]) := HBK.out
  have y0 : w0.cell? ⟨bx, 0, none⟩ = some (.int .u8 (op : Nat)) := HX.out.cell 0
  have y1 : w0.cell? ⟨bx, 1, none⟩ = some (.int .i64 kids) := HX.out.cell 1
  have y2 : w0.cell? ⟨bx, 2, none⟩ = some (.int .i64 int) := HX.out.cell 2
  have y3 : w0.cell? ⟨bx, 3, none⟩ = some (.string text) := HX.out.cell 3
  have HR0 := Lib.hid (show R = ((if nb = true then ob else if op = 24 then decide (text.size ≤ 4095) else text.toList.isEmpty) && (decide (0 ≤ int ∧ (int = 0 ∨ op = 23)) && (decide ((lf : Int) ≤ kids) && decide (mf < 0 ∧ kids ≤ 2048 ∨ 0 ≤ mf ∧ kids ≤ mf)))) from by rw [HR.out]; rfl)
  clear HR
  go_wp2_with fail
  refine (HE.out w0).mono ?_
  rintro e w9 ⟨rfl, hw9⟩
  rw [hw9]
  clear hw9 w9
  go_wp2_with fail
  refine (HN.out w0).mono ?_
  rintro e w9 ⟨rfl, hw9⟩
  rw [hw9]
  clear hw9 w9
  cases nb
  · by_cases h24 : op = 24
    · have d24 : ((op : Int) == 24) = true := by rw [h24]; rfl
      by_cases hsz : 4095 < text.size
      · have dsz : decide ((4095 : Int) < (text.size : Int)) = true := decide_eq_true (by omega)
        have HRF := Lib.hid (show R = false from by rw [HR0.out, if_neg (by simp), if_pos h24, decide_eq_false (by omega)]; rfl)
        clear h24
        go_wp2_with fail
        go_ret
        exact ⟨ret_bool (by rw [HRF.out]), HB0.out⟩
      · have dsz : decide ((4095 : Int) < (text.size : Int)) = false := decide_eq_false (by omega)
        have HR := Lib.hid (show R = (decide (0 ≤ int ∧ (int = 0 ∨ op = 23)) && (decide ((lf : Int) ≤ kids) && decide (mf < 0 ∧ kids ≤ 2048 ∨ 0 ≤ mf ∧ kids ≤ mf))) from by rw [HR0.out, if_neg (by simp), if_pos h24, decide_eq_true (show text.size ≤ 4095 from by omega), Bool.true_and])
        clear h24
        by_cases t1 : int < 0
        · have d1 : decide (int < 0) = true := decide_eq_true t1
          have HRF := Lib.hid (show R = false from by rw [HR.out, decide_eq_false (show ¬ (0 ≤ int ∧ (int = 0 ∨ op = 23)) from by omega)]; rfl)
          go_wp2_with fail
          go_ret
          exact ⟨ret_bool (by rw [HRF.out]), HB0.out⟩
        · have d1 : decide (int < 0) = false := decide_eq_false t1
          by_cases t2 : 0 < int ∧ op ≠ 23
          · obtain ⟨t3, t4⟩ := t2
            have d2 : decide (0 < int) = true := decide_eq_true t3
            have d3 : ((op : Int) != 23) = true := by rw [bne_iff_ne]; omega
            have HRF := Lib.hid (show R = false from by rw [HR.out, decide_eq_false (show ¬ (0 ≤ int ∧ (int = 0 ∨ op = 23)) from by omega)]; rfl)
            go_wp2_with fail
            go_ret
            exact ⟨ret_bool (by rw [HRF.out]), HB0.out⟩
          · have HR2 := Lib.hid (show R = (decide ((lf : Int) ≤ kids) && decide (mf < 0 ∧ kids ≤ 2048 ∨ 0 ≤ mf ∧ kids ≤ mf)) from by rw [HR.out, decide_eq_true (show 0 ≤ int ∧ (int = 0 ∨ op = 23) from by omega)]; rfl)
            clear HR
            have dd : ∃ u v : Bool, decide (0 < int) = u ∧ ((op : Int) != 23) = v ∧ (u && v) = false := by
              refine ⟨_, _, rfl, rfl, ?_⟩
              rw [Bool.and_eq_false_iff, decide_eq_false_iff_not, bne_eq_false_iff_eq]
              omega
            obtain ⟨u, v, hu, hv, huv⟩ := dd
            cases u
            · clear t1 t2
              by_cases k1 : (lf : Int) ≤ kids
              · have d4 : decide ((lf : Int) ≤ kids) = true := decide_eq_true k1
                by_cases m0 : mf < 0
                · have d5 : decide (mf < 0) = true := decide_eq_true m0
                  by_cases k2 : kids ≤ 2048
                  · have d6 : decide (kids ≤ 2048) = true := decide_eq_true k2
                    have HRV := Lib.hid (show R = true from by rw [HR2.out, d4, decide_eq_true (.inl ⟨m0, k2⟩)]; rfl)
                    go_wp2_with fail
                    go_quiet (first | (refine Calls.quiet_of_same (HL.out _)) | (refine Calls.quiet_of_same (HM.out _)))
                    go_wp2_with fail
                    go_ret
                    exact ⟨ret_bool (by rw [HRV.out]), below_drewN HB0.out nq⟩
                  · have d6 : decide (kids ≤ 2048) = false := decide_eq_false k2
                    have d7 : decide (kids ≤ mf) = false := decide_eq_false (by omega)
                    have HRV := Lib.hid (show R = false from by rw [HR2.out, decide_eq_false (show ¬ (mf < 0 ∧ kids ≤ 2048 ∨ 0 ≤ mf ∧ kids ≤ mf) from by omega), Bool.and_false])
                    go_wp2_with fail
                    go_quiet (first | (refine Calls.quiet_of_same (HL.out _)) | (refine Calls.quiet_of_same (HM.out _)))
                    go_wp2_with fail
                    go_ret
                    exact ⟨ret_bool (by rw [HRV.out]), below_drewN HB0.out nq⟩
                · have d5 : decide (mf < 0) = false := decide_eq_false m0
                  by_cases k2 : kids ≤ mf
                  · have d6 : decide (kids ≤ mf) = true := decide_eq_true k2
                    have HRV := Lib.hid (show R = true from by rw [HR2.out, d4, decide_eq_true (show mf < 0 ∧ kids ≤ 2048 ∨ 0 ≤ mf ∧ kids ≤ mf from by omega)]; rfl)
                    go_wp2_with fail
                    go_quiet (first | (refine Calls.quiet_of_same (HL.out _)) | (refine Calls.quiet_of_same (HM.out _)))
                    go_wp2_with fail
                    go_ret
                    exact ⟨ret_bool (by rw [HRV.out]), below_drewN HB0.out nq⟩
                  · have d6 : decide (kids ≤ mf) = false := decide_eq_false k2
                    have HRV := Lib.hid (show R = false from by rw [HR2.out, decide_eq_false (show ¬ (mf < 0 ∧ kids ≤ 2048 ∨ 0 ≤ mf ∧ kids ≤ mf) from by omega), Bool.and_false])
                    go_wp2_with fail
                    go_quiet (first | (refine Calls.quiet_of_same (HL.out _)) | (refine Calls.quiet_of_same (HM.out _)))
                    go_wp2_with fail
                    go_ret
                    exact ⟨ret_bool (by rw [HRV.out]), below_drewN HB0.out nq⟩
              · have d4 : decide ((lf : Int) ≤ kids) = false := decide_eq_false k1
                have HRV := Lib.hid (show R = false from by rw [HR2.out, d4]; rfl)
                go_wp2_with fail
                go_quiet (first | (refine Calls.quiet_of_same (HL.out _)) | (refine Calls.quiet_of_same (HM.out _)))
                go_wp2_with fail
                go_ret
                exact ⟨ret_bool (by rw [HRV.out]), below_drewN HB0.out nq⟩
            · cases v
              · clear t1 t2
                by_cases k1 : (lf : Int) ≤ kids
                · have d4 : decide ((lf : Int) ≤ kids) = true := decide_eq_true k1
                  by_cases m0 : mf < 0
                  · have d5 : decide (mf < 0) = true := decide_eq_true m0
                    by_cases k2 : kids ≤ 2048
                    · have d6 : decide (kids ≤ 2048) = true := decide_eq_true k2
                      have HRV := Lib.hid (show R = true from by rw [HR2.out, d4, decide_eq_true (.inl ⟨m0, k2⟩)]; rfl)
                      go_wp2_with fail
                      go_quiet (first | (refine Calls.quiet_of_same (HL.out _)) | (refine Calls.quiet_of_same (HM.out _)))
                      go_wp2_with fail
                      go_ret
                      exact ⟨ret_bool (by rw [HRV.out]), below_drewN HB0.out nq⟩
                    · have d6 : decide (kids ≤ 2048) = false := decide_eq_false k2
                      have d7 : decide (kids ≤ mf) = false := decide_eq_false (by omega)
                      have HRV := Lib.hid (show R = false from by rw [HR2.out, decide_eq_false (show ¬ (mf < 0 ∧ kids ≤ 2048 ∨ 0 ≤ mf ∧ kids ≤ mf) from by omega), Bool.and_false])
                      go_wp2_with fail
                      go_quiet (first | (refine Calls.quiet_of_same (HL.out _)) | (refine Calls.quiet_of_same (HM.out _)))
                      go_wp2_with fail
                      go_ret
                      exact ⟨ret_bool (by rw [HRV.out]), below_drewN HB0.out nq⟩
                  · have d5 : decide (mf < 0) = false := decide_eq_false m0
                    by_cases k2 : kids ≤ mf
                    · have d6 : decide (kids ≤ mf) = true := decide_eq_true k2
                      have HRV := Lib.hid (show R = true from by rw [HR2.out, d4, decide_eq_true (show mf < 0 ∧ kids ≤ 2048 ∨ 0 ≤ mf ∧ kids ≤ mf from by omega)]; rfl)
                      go_wp2_with fail
                      go_quiet (first | (refine Calls.quiet_of_same (HL.out _)) | (refine Calls.quiet_of_same (HM.out _)))
                      go_wp2_with fail
                      go_ret
                      exact ⟨ret_bool (by rw [HRV.out]), below_drewN HB0.out nq⟩
                    · have d6 : decide (kids ≤ mf) = false := decide_eq_false k2
                      have HRV := Lib.hid (show R = false from by rw [HR2.out, decide_eq_false (show ¬ (mf < 0 ∧ kids ≤ 2048 ∨ 0 ≤ mf ∧ kids ≤ mf) from by omega), Bool.and_false])
                      go_wp2_with fail
                      go_quiet (first | (refine Calls.quiet_of_same (HL.out _)) | (refine Calls.quiet_of_same (HM.out _)))
                      go_wp2_with fail
                      go_ret
                      exact ⟨ret_bool (by rw [HRV.out]), below_drewN HB0.out nq⟩
                · have d4 : decide ((lf : Int) ≤ kids) = false := decide_eq_false k1
                  have HRV := Lib.hid (show R = false from by rw [HR2.out, d4]; rfl)
                  go_wp2_with fail
                  go_quiet (first | (refine Calls.quiet_of_same (HL.out _)) | (refine Calls.quiet_of_same (HM.out _)))
                  go_wp2_with fail
                  go_ret
                  exact ⟨ret_bool (by rw [HRV.out]), below_drewN HB0.out nq⟩
              · cases huv
    · have d24 : ((op : Int) == 24) = false := eqf (by omega)
      cases hem : text.toList.isEmpty
      · have HRF := Lib.hid (show R = false from by rw [HR0.out, if_neg (by simp), if_neg h24, hem]; rfl)
        clear h24
        go_wp2_with fail
        go_ret
        exact ⟨ret_bool (by rw [HRF.out]), HB0.out⟩
      · have HR := Lib.hid (show R = (decide (0 ≤ int ∧ (int = 0 ∨ op = 23)) && (decide ((lf : Int) ≤ kids) && decide (mf < 0 ∧ kids ≤ 2048 ∨ 0 ≤ mf ∧ kids ≤ mf))) from by rw [HR0.out, if_neg (by simp), if_neg h24, hem, Bool.true_and])
        clear h24
        by_cases t1 : int < 0
        · have d1 : decide (int < 0) = true := decide_eq_true t1
          have HRF := Lib.hid (show R = false from by rw [HR.out, decide_eq_false (show ¬ (0 ≤ int ∧ (int = 0 ∨ op = 23)) from by omega)]; rfl)
          go_wp2_with fail
          go_ret
          exact ⟨ret_bool (by rw [HRF.out]), HB0.out⟩
        · have d1 : decide (int < 0) = false := decide_eq_false t1
          by_cases t2 : 0 < int ∧ op ≠ 23
          · obtain ⟨t3, t4⟩ := t2
            have d2 : decide (0 < int) = true := decide_eq_true t3
            have d3 : ((op : Int) != 23) = true := by rw [bne_iff_ne]; omega
            have HRF := Lib.hid (show R = false from by rw [HR.out, decide_eq_false (show ¬ (0 ≤ int ∧ (int = 0 ∨ op = 23)) from by omega)]; rfl)
            go_wp2_with fail
            go_ret
            exact ⟨ret_bool (by rw [HRF.out]), HB0.out⟩
          · have HR2 := Lib.hid (show R = (decide ((lf : Int) ≤ kids) && decide (mf < 0 ∧ kids ≤ 2048 ∨ 0 ≤ mf ∧ kids ≤ mf)) from by rw [HR.out, decide_eq_true (show 0 ≤ int ∧ (int = 0 ∨ op = 23) from by omega)]; rfl)
            clear HR
            have dd : ∃ u v : Bool, decide (0 < int) = u ∧ ((op : Int) != 23) = v ∧ (u && v) = false := by
              refine ⟨_, _, rfl, rfl, ?_⟩
              rw [Bool.and_eq_false_iff, decide_eq_false_iff_not, bne_eq_false_iff_eq]
              omega
            obtain ⟨u, v, hu, hv, huv⟩ := dd
            cases u
            · clear t1 t2
              by_cases k1 : (lf : Int) ≤ kids
              · have d4 : decide ((lf : Int) ≤ kids) = true := decide_eq_true k1
                by_cases m0 : mf < 0
                · have d5 : decide (mf < 0) = true := decide_eq_true m0
                  by_cases k2 : kids ≤ 2048
                  · have d6 : decide (kids ≤ 2048) = true := decide_eq_true k2
                    have HRV := Lib.hid (show R = true from by rw [HR2.out, d4, decide_eq_true (.inl ⟨m0, k2⟩)]; rfl)
                    go_wp2_with fail
                    go_quiet (first | (refine Calls.quiet_of_same (HL.out _)) | (refine Calls.quiet_of_same (HM.out _)))
                    go_wp2_with fail
                    go_ret
                    exact ⟨ret_bool (by rw [HRV.out]), below_drewN HB0.out nq⟩
                  · have d6 : decide (kids ≤ 2048) = false := decide_eq_false k2
                    have d7 : decide (kids ≤ mf) = false := decide_eq_false (by omega)
                    have HRV := Lib.hid (show R = false from by rw [HR2.out, decide_eq_false (show ¬ (mf < 0 ∧ kids ≤ 2048 ∨ 0 ≤ mf ∧ kids ≤ mf) from by omega), Bool.and_false])
                    go_wp2_with fail
                    go_quiet (first | (refine Calls.quiet_of_same (HL.out _)) | (refine Calls.quiet_of_same (HM.out _)))
                    go_wp2_with fail
                    go_ret
                    exact ⟨ret_bool (by rw [HRV.out]), below_drewN HB0.out nq⟩
                · have d5 : decide (mf < 0) = false := decide_eq_false m0
                  by_cases k2 : kids ≤ mf
                  · have d6 : decide (kids ≤ mf) = true := decide_eq_true k2
                    have HRV := Lib.hid (show R = true from by rw [HR2.out, d4, decide_eq_true (show mf < 0 ∧ kids ≤ 2048 ∨ 0 ≤ mf ∧ kids ≤ mf from by omega)]; rfl)
                    go_wp2_with fail
                    go_quiet (first | (refine Calls.quiet_of_same (HL.out _)) | (refine Calls.quiet_of_same (HM.out _)))
                    go_wp2_with fail
                    go_ret
                    exact ⟨ret_bool (by rw [HRV.out]), below_drewN HB0.out nq⟩
                  · have d6 : decide (kids ≤ mf) = false := decide_eq_false k2
                    have HRV := Lib.hid (show R = false from by rw [HR2.out, decide_eq_false (show ¬ (mf < 0 ∧ kids ≤ 2048 ∨ 0 ≤ mf ∧ kids ≤ mf) from by omega), Bool.and_false])
                    go_wp2_with fail
                    go_quiet (first | (refine Calls.quiet_of_same (HL.out _)) | (refine Calls.quiet_of_same (HM.out _)))
                    go_wp2_with fail
                    go_ret
                    exact ⟨ret_bool (by rw [HRV.out]), below_drewN HB0.out nq⟩
              · have d4 : decide ((lf : Int) ≤ kids) = false := decide_eq_false k1
                have HRV := Lib.hid (show R = false from by rw [HR2.out, d4]; rfl)
                go_wp2_with fail
                go_quiet (first | (refine Calls.quiet_of_same (HL.out _)) | (refine Calls.quiet_of_same (HM.out _)))
                go_wp2_with fail
                go_ret
                exact ⟨ret_bool (by rw [HRV.out]), below_drewN HB0.out nq⟩
            · cases v
              · clear t1 t2
                by_cases k1 : (lf : Int) ≤ kids
                · have d4 : decide ((lf : Int) ≤ kids) = true := decide_eq_true k1
                  by_cases m0 : mf < 0
                  · have d5 : decide (mf < 0) = true := decide_eq_true m0
                    by_cases k2 : kids ≤ 2048
                    · have d6 : decide (kids ≤ 2048) = true := decide_eq_true k2
                      have HRV := Lib.hid (show R = true from by rw [HR2.out, d4, decide_eq_true (.inl ⟨m0, k2⟩)]; rfl)
                      go_wp2_with fail
                      go_quiet (first | (refine Calls.quiet_of_same (HL.out _)) | (refine Calls.quiet_of_same (HM.out _)))
                      go_wp2_with fail
                      go_ret
                      exact ⟨ret_bool (by rw [HRV.out]), below_drewN HB0.out nq⟩
                    · have d6 : decide (kids ≤ 2048) = false := decide_eq_false k2
                      have d7 : decide (kids ≤ mf) = false := decide_eq_false (by omega)
                      have HRV := Lib.hid (show R = false from by rw [HR2.out, decide_eq_false (show ¬ (mf < 0 ∧ kids ≤ 2048 ∨ 0 ≤ mf ∧ kids ≤ mf) from by omega), Bool.and_false])
                      go_wp2_with fail
                      go_quiet (first | (refine Calls.quiet_of_same (HL.out _)) | (refine Calls.quiet_of_same (HM.out _)))
                      go_wp2_with fail
                      go_ret
                      exact ⟨ret_bool (by rw [HRV.out]), below_drewN HB0.out nq⟩
                  · have d5 : decide (mf < 0) = false := decide_eq_false m0
                    by_cases k2 : kids ≤ mf
                    · have d6 : decide (kids ≤ mf) = true := decide_eq_true k2
                      have HRV := Lib.hid (show R = true from by rw [HR2.out, d4, decide_eq_true (show mf < 0 ∧ kids ≤ 2048 ∨ 0 ≤ mf ∧ kids ≤ mf from by omega)]; rfl)
                      go_wp2_with fail
                      go_quiet (first | (refine Calls.quiet_of_same (HL.out _)) | (refine Calls.quiet_of_same (HM.out _)))
                      go_wp2_with fail
                      go_ret
                      exact ⟨ret_bool (by rw [HRV.out]), below_drewN HB0.out nq⟩
                    · have d6 : decide (kids ≤ mf) = false := decide_eq_false k2
                      have HRV := Lib.hid (show R = false from by rw [HR2.out, decide_eq_false (show ¬ (mf < 0 ∧ kids ≤ 2048 ∨ 0 ≤ mf ∧ kids ≤ mf) from by omega), Bool.and_false])
                      go_wp2_with fail
                      go_quiet (first | (refine Calls.quiet_of_same (HL.out _)) | (refine Calls.quiet_of_same (HM.out _)))
                      go_wp2_with fail
                      go_ret
                      exact ⟨ret_bool (by rw [HRV.out]), below_drewN HB0.out nq⟩
                · have d4 : decide ((lf : Int) ≤ kids) = false := decide_eq_false k1
                  have HRV := Lib.hid (show R = false from by rw [HR2.out, d4]; rfl)
                  go_wp2_with fail
                  go_quiet (first | (refine Calls.quiet_of_same (HL.out _)) | (refine Calls.quiet_of_same (HM.out _)))
                  go_wp2_with fail
                  go_ret
                  exact ⟨ret_bool (by rw [HRV.out]), below_drewN HB0.out nq⟩
              · cases huv
  · go_wp2_with fail
    refine (HO.out w0).mono ?_
    rintro e w5 ⟨rfl, hb5⟩
    have HX5 := Lib.hid (HX.out.below hb5 HX.out.lt)
    have HB5 := Lib.hid (HB0.out.trans (hb5.mono HB0.out.size))
    have z0 : w5.cell? ⟨bx, 0, none⟩ = some (.int .u8 (op : Nat)) := HX5.out.cell 0
    have z1 : w5.cell? ⟨bx, 1, none⟩ = some (.int .i64 kids) := HX5.out.cell 1
    have z2 : w5.cell? ⟨bx, 2, none⟩ = some (.int .i64 int) := HX5.out.cell 2
    have z3 : w5.cell? ⟨bx, 3, none⟩ = some (.string text) := HX5.out.cell 3
    clear hb5 y0 y1 y2 y3
    cases ob
    · have HRF := Lib.hid (show R = false from by rw [HR0.out]; rfl)
      go_wp2_with fail
      go_ret
      exact ⟨ret_bool (by rw [HRF.out]), HB5.out⟩
    · have HR := Lib.hid (show R = (decide (0 ≤ int ∧ (int = 0 ∨ op = 23)) && (decide ((lf : Int) ≤ kids) && decide (mf < 0 ∧ kids ≤ 2048 ∨ 0 ≤ mf ∧ kids ≤ mf))) from by rw [HR0.out]; rfl)
      by_cases t1 : int < 0
      · have d1 : decide (int < 0) = true := decide_eq_true t1
        have HRF := Lib.hid (show R = false from by rw [HR.out, decide_eq_false (show ¬ (0 ≤ int ∧ (int = 0 ∨ op = 23)) from by omega)]; rfl)
        go_wp2_with fail
        go_ret
        exact ⟨ret_bool (by rw [HRF.out]), HB5.out⟩
      · have d1 : decide (int < 0) = false := decide_eq_false t1
        by_cases t2 : 0 < int ∧ op ≠ 23
        · obtain ⟨t3, t4⟩ := t2
          have d2 : decide (0 < int) = true := decide_eq_true t3
          have d3 : ((op : Int) != 23) = true := by rw [bne_iff_ne]; omega
          have HRF := Lib.hid (show R = false from by rw [HR.out, decide_eq_false (show ¬ (0 ≤ int ∧ (int = 0 ∨ op = 23)) from by omega)]; rfl)
          go_wp2_with fail
          go_ret
          exact ⟨ret_bool (by rw [HRF.out]), HB5.out⟩
        · have HR2 := Lib.hid (show R = (decide ((lf : Int) ≤ kids) && decide (mf < 0 ∧ kids ≤ 2048 ∨ 0 ≤ mf ∧ kids ≤ mf)) from by rw [HR.out, decide_eq_true (show 0 ≤ int ∧ (int = 0 ∨ op = 23) from by omega)]; rfl)
          clear HR
          have dd : ∃ u v : Bool, decide (0 < int) = u ∧ ((op : Int) != 23) = v ∧ (u && v) = false := by
            refine ⟨_, _, rfl, rfl, ?_⟩
            rw [Bool.and_eq_false_iff, decide_eq_false_iff_not, bne_eq_false_iff_eq]
            omega
          obtain ⟨u, v, hu, hv, huv⟩ := dd
          cases u
          · clear t1 t2
            by_cases k1 : (lf : Int) ≤ kids
            · have d4 : decide ((lf : Int) ≤ kids) = true := decide_eq_true k1
              by_cases m0 : mf < 0
              · have d5 : decide (mf < 0) = true := decide_eq_true m0
                by_cases k2 : kids ≤ 2048
                · have d6 : decide (kids ≤ 2048) = true := decide_eq_true k2
                  have HRV := Lib.hid (show R = true from by rw [HR2.out, d4, decide_eq_true (.inl ⟨m0, k2⟩)]; rfl)
                  go_wp2_with fail
                  go_quiet (first | (refine Calls.quiet_of_same (HL.out _)) | (refine Calls.quiet_of_same (HM.out _)))
                  go_wp2_with fail
                  go_ret
                  exact ⟨ret_bool (by rw [HRV.out]), below_drewN HB5.out nq⟩
                · have d6 : decide (kids ≤ 2048) = false := decide_eq_false k2
                  have d7 : decide (kids ≤ mf) = false := decide_eq_false (by omega)
                  have HRV := Lib.hid (show R = false from by rw [HR2.out, decide_eq_false (show ¬ (mf < 0 ∧ kids ≤ 2048 ∨ 0 ≤ mf ∧ kids ≤ mf) from by omega), Bool.and_false])
                  go_wp2_with fail
                  go_quiet (first | (refine Calls.quiet_of_same (HL.out _)) | (refine Calls.quiet_of_same (HM.out _)))
                  go_wp2_with fail
                  go_ret
                  exact ⟨ret_bool (by rw [HRV.out]), below_drewN HB5.out nq⟩
              · have d5 : decide (mf < 0) = false := decide_eq_false m0
                by_cases k2 : kids ≤ mf
                · have d6 : decide (kids ≤ mf) = true := decide_eq_true k2
                  have HRV := Lib.hid (show R = true from by rw [HR2.out, d4, decide_eq_true (show mf < 0 ∧ kids ≤ 2048 ∨ 0 ≤ mf ∧ kids ≤ mf from by omega)]; rfl)
                  go_wp2_with fail
                  go_quiet (first | (refine Calls.quiet_of_same (HL.out _)) | (refine Calls.quiet_of_same (HM.out _)))
                  go_wp2_with fail
                  go_ret
                  exact ⟨ret_bool (by rw [HRV.out]), below_drewN HB5.out nq⟩
                · have d6 : decide (kids ≤ mf) = false := decide_eq_false k2
                  have HRV := Lib.hid (show R = false from by rw [HR2.out, decide_eq_false (show ¬ (mf < 0 ∧ kids ≤ 2048 ∨ 0 ≤ mf ∧ kids ≤ mf) from by omega), Bool.and_false])
                  go_wp2_with fail
                  go_quiet (first | (refine Calls.quiet_of_same (HL.out _)) | (refine Calls.quiet_of_same (HM.out _)))
                  go_wp2_with fail
                  go_ret
                  exact ⟨ret_bool (by rw [HRV.out]), below_drewN HB5.out nq⟩
            · have d4 : decide ((lf : Int) ≤ kids) = false := decide_eq_false k1
              have HRV := Lib.hid (show R = false from by rw [HR2.out, d4]; rfl)
              go_wp2_with fail
              go_quiet (first | (refine Calls.quiet_of_same (HL.out _)) | (refine Calls.quiet_of_same (HM.out _)))
              go_wp2_with fail
              go_ret
              exact ⟨ret_bool (by rw [HRV.out]), below_drewN HB5.out nq⟩
          · cases v
            · clear t1 t2
              by_cases k1 : (lf : Int) ≤ kids
              · have d4 : decide ((lf : Int) ≤ kids) = true := decide_eq_true k1
                by_cases m0 : mf < 0
                · have d5 : decide (mf < 0) = true := decide_eq_true m0
                  by_cases k2 : kids ≤ 2048
                  · have d6 : decide (kids ≤ 2048) = true := decide_eq_true k2
                    have HRV := Lib.hid (show R = true from by rw [HR2.out, d4, decide_eq_true (.inl ⟨m0, k2⟩)]; rfl)
                    go_wp2_with fail
                    go_quiet (first | (refine Calls.quiet_of_same (HL.out _)) | (refine Calls.quiet_of_same (HM.out _)))
                    go_wp2_with fail
                    go_ret
                    exact ⟨ret_bool (by rw [HRV.out]), below_drewN HB5.out nq⟩
                  · have d6 : decide (kids ≤ 2048) = false := decide_eq_false k2
                    have d7 : decide (kids ≤ mf) = false := decide_eq_false (by omega)
                    have HRV := Lib.hid (show R = false from by rw [HR2.out, decide_eq_false (show ¬ (mf < 0 ∧ kids ≤ 2048 ∨ 0 ≤ mf ∧ kids ≤ mf) from by omega), Bool.and_false])
                    go_wp2_with fail
                    go_quiet (first | (refine Calls.quiet_of_same (HL.out _)) | (refine Calls.quiet_of_same (HM.out _)))
                    go_wp2_with fail
                    go_ret
                    exact ⟨ret_bool (by rw [HRV.out]), below_drewN HB5.out nq⟩
                · have d5 : decide (mf < 0) = false := decide_eq_false m0
                  by_cases k2 : kids ≤ mf
                  · have d6 : decide (kids ≤ mf) = true := decide_eq_true k2
                    have HRV := Lib.hid (show R = true from by rw [HR2.out, d4, decide_eq_true (show mf < 0 ∧ kids ≤ 2048 ∨ 0 ≤ mf ∧ kids ≤ mf from by omega)]; rfl)
                    go_wp2_with fail
                    go_quiet (first | (refine Calls.quiet_of_same (HL.out _)) | (refine Calls.quiet_of_same (HM.out _)))
                    go_wp2_with fail
                    go_ret
                    exact ⟨ret_bool (by rw [HRV.out]), below_drewN HB5.out nq⟩
                  · have d6 : decide (kids ≤ mf) = false := decide_eq_false k2
                    have HRV := Lib.hid (show R = false from by rw [HR2.out, decide_eq_false (show ¬ (mf < 0 ∧ kids ≤ 2048 ∨ 0 ≤ mf ∧ kids ≤ mf) from by omega), Bool.and_false])
                    go_wp2_with fail
                    go_quiet (first | (refine Calls.quiet_of_same (HL.out _)) | (refine Calls.quiet_of_same (HM.out _)))
                    go_wp2_with fail
                    go_ret
                    exact ⟨ret_bool (by rw [HRV.out]), below_drewN HB5.out nq⟩
              · have d4 : decide ((lf : Int) ≤ kids) = false := decide_eq_false k1
                have HRV := Lib.hid (show R = false from by rw [HR2.out, d4]; rfl)
                go_wp2_with fail
                go_quiet (first | (refine Calls.quiet_of_same (HL.out _)) | (refine Calls.quiet_of_same (HM.out _)))
                go_wp2_with fail
                go_ret
                exact ⟨ret_bool (by rw [HRV.out]), below_drewN HB5.out nq⟩
            · cases huv
end Go.Proofs.Ytbcadlocldplfaa.T8
namespace Go.Proofs.Ytbcadlocldplfaa.T8
set_option maxRecDepth 100000
open Go.RowKit

set_option maxRecDepth 100000 in
set_option maxHeartbeats 8000000 in
theorem refFine_2 (x : Tw) (w : World) (hx : TwOk x) (heb0 : exprB x.op = false) (hsb0 : stmtB x.op = true) : Calls Try.prog 51 #[.agg (twCells x)] w fun e w' => e = .returned (.bool (fineB x (fun _ => true))) ∧ Below w.heap.size w w' := by
  rw [← fineR_eq]
  obtain ⟨op, kids, int, text⟩ := x
  obtain ⟨o1, o2, o3, o4, o5, o6⟩ := hx
  dsimp only at o1 o2 o3 o4 o5 o6 heb0 hsb0
  have HBK := Lib.hid (Blk.new w 40 (twCells ⟨op, kids, int, text⟩))
  have HB0 := Lib.hid ((Below.refl w.heap.size w).alloc (Nat.le_refl _) (.cells (twCells ⟨op, kids, int, text⟩) 40))
  have HE := Lib.hid (fun W => refExpr_any op W o1)
  have HS := Lib.hid (fun W => refStmt_any op W o1)
  have HN := Lib.hid (fun W => named_any op W o1)
  have HO := Lib.hid (fun W => refOwn_any text W (by unfold maxLen at o6; omega))
  have HL := Lib.hid (fun W => least_any op W o1)
  have HM := Lib.hid (fun W => most_any op W o1)
  obtain ⟨R, hR⟩ : ∃ R, R = fineR ⟨op, kids, int, text⟩ := ⟨_, rfl⟩
  rw [← hR]
  unfold fineR at hR
  dsimp only at hR
  have HR := Lib.hid hR
  have o7 : text.size ≤ 9223372036854775807 := by unfold maxLen at o6; omega
  clear hR o6
  obtain ⟨lf, hlf⟩ : ∃ z, z = leastF op := ⟨_, rfl⟩
  have hlf2 : lf ≤ 2 := by rw [hlf]; exact leastF_le op
  obtain ⟨mf, hmf⟩ : ∃ z, z = mostF op := ⟨_, rfl⟩
  rw [← hlf] at HR HL
  rw [← hmf] at HR HM
  rw [heb0] at HR HE
  rw [hsb0] at HR HS
  obtain ⟨nb, hnb⟩ : ∃ z, z = namedB op := ⟨_, rfl⟩
  obtain ⟨ob, hob⟩ : ∃ z, z = (nameB text.toList && !kw text.toList) := ⟨_, rfl⟩
  rw [← hnb] at HR HN
  rw [← hob] at HR HO
  clear hlf hmf heb0 hsb0 hnb hob
  dsimp only [twCells] at HBK HB0 ⊢
  go_enter Try.func51, Try.ntmps51
  go_wp2_with fail
  generalize w.alloc (.cells #[.int .u8 (op : Nat), .int .i64 kids, .int .i64 int, .string text] 40) = w0 at *
  obtain ⟨bx, hbx⟩ : ∃ g, g = w.heap.size := ⟨_, rfl⟩
  rw [← hbx] at HBK ⊢
  clear hbx
  have HX : Hid (Blk w0 bx 40 #[.int .u8 (op : Nat), .int .i64 kids, .int .i64 int, .string text]) := HBK.out
  have y0 : w0.cell? ⟨bx, 0, none⟩ = some (.int .u8 (op : Nat)) := HX.out.cell 0
  have y1 : w0.cell? ⟨bx, 1, none⟩ = some (.int .i64 kids) := HX.out.cell 1
  have y2 : w0.cell? ⟨bx, 2, none⟩ = some (.int .i64 int) := HX.out.cell 2
  have y3 : w0.cell? ⟨bx, 3, none⟩ = some (.string text) := HX.out.cell 3
  have HR0 := Lib.hid (show R = ((if nb = true then ob else if op = 24 then decide (text.size ≤ 4095) else text.toList.isEmpty) && (decide (0 ≤ int ∧ (int = 0 ∨ op = 23)) && (decide ((lf : Int) ≤ kids) && decide (mf < 0 ∧ kids ≤ 2048 ∨ 0 ≤ mf ∧ kids ≤ mf)))) from by rw [HR.out]; rfl)
  clear HR
  go_wp2_with fail
  refine (HE.out w0).mono ?_
  rintro e w9 ⟨rfl, hw9⟩
  rw [hw9]
  clear hw9 w9
  go_wp2_with fail
  refine (HS.out w0).mono ?_
  rintro e w9 ⟨rfl, hw9⟩
  rw [hw9]
  clear hw9 w9
  go_wp2_with fail
  refine (HN.out w0).mono ?_
  rintro e w9 ⟨rfl, hw9⟩
  rw [hw9]
  clear hw9 w9
  cases nb
  · by_cases h24 : op = 24
    · have d24 : ((op : Int) == 24) = true := by rw [h24]; rfl
      by_cases hsz : 4095 < text.size
      · have dsz : decide ((4095 : Int) < (text.size : Int)) = true := decide_eq_true (by omega)
        have HRF := Lib.hid (show R = false from by rw [HR0.out, if_neg (by simp), if_pos h24, decide_eq_false (by omega)]; rfl)
        clear h24
        go_wp2_with fail
        go_ret
        exact ⟨ret_bool (by rw [HRF.out]), HB0.out⟩
      · have dsz : decide ((4095 : Int) < (text.size : Int)) = false := decide_eq_false (by omega)
        have HR := Lib.hid (show R = (decide (0 ≤ int ∧ (int = 0 ∨ op = 23)) && (decide ((lf : Int) ≤ kids) && decide (mf < 0 ∧ kids ≤ 2048 ∨ 0 ≤ mf ∧ kids ≤ mf))) from by rw [HR0.out, if_neg (by simp), if_pos h24, decide_eq_true (show text.size ≤ 4095 from by omega), Bool.true_and])
        clear h24
        by_cases t1 : int < 0
        · have d1 : decide (int < 0) = true := decide_eq_true t1
          have HRF := Lib.hid (show R = false from by rw [HR.out, decide_eq_false (show ¬ (0 ≤ int ∧ (int = 0 ∨ op = 23)) from by omega)]; rfl)
          go_wp2_with fail
          go_ret
          exact ⟨ret_bool (by rw [HRF.out]), HB0.out⟩
        · have d1 : decide (int < 0) = false := decide_eq_false t1
          by_cases t2 : 0 < int ∧ op ≠ 23
          · obtain ⟨t3, t4⟩ := t2
            have d2 : decide (0 < int) = true := decide_eq_true t3
            have d3 : ((op : Int) != 23) = true := by rw [bne_iff_ne]; omega
            have HRF := Lib.hid (show R = false from by rw [HR.out, decide_eq_false (show ¬ (0 ≤ int ∧ (int = 0 ∨ op = 23)) from by omega)]; rfl)
            go_wp2_with fail
            go_ret
            exact ⟨ret_bool (by rw [HRF.out]), HB0.out⟩
          · have HR2 := Lib.hid (show R = (decide ((lf : Int) ≤ kids) && decide (mf < 0 ∧ kids ≤ 2048 ∨ 0 ≤ mf ∧ kids ≤ mf)) from by rw [HR.out, decide_eq_true (show 0 ≤ int ∧ (int = 0 ∨ op = 23) from by omega)]; rfl)
            clear HR
            have dd : ∃ u v : Bool, decide (0 < int) = u ∧ ((op : Int) != 23) = v ∧ (u && v) = false := by
              refine ⟨_, _, rfl, rfl, ?_⟩
              rw [Bool.and_eq_false_iff, decide_eq_false_iff_not, bne_eq_false_iff_eq]
              omega
            obtain ⟨u, v, hu, hv, huv⟩ := dd
            cases u
            · clear t1 t2
              by_cases k1 : (lf : Int) ≤ kids
              · have d4 : decide ((lf : Int) ≤ kids) = true := decide_eq_true k1
                by_cases m0 : mf < 0
                · have d5 : decide (mf < 0) = true := decide_eq_true m0
                  by_cases k2 : kids ≤ 2048
                  · have d6 : decide (kids ≤ 2048) = true := decide_eq_true k2
                    have HRV := Lib.hid (show R = true from by rw [HR2.out, d4, decide_eq_true (.inl ⟨m0, k2⟩)]; rfl)
                    go_wp2_with fail
                    go_quiet (first | (refine Calls.quiet_of_same (HL.out _)) | (refine Calls.quiet_of_same (HM.out _)))
                    go_wp2_with fail
                    go_ret
                    exact ⟨ret_bool (by rw [HRV.out]), below_drewN HB0.out nq⟩
                  · have d6 : decide (kids ≤ 2048) = false := decide_eq_false k2
                    have d7 : decide (kids ≤ mf) = false := decide_eq_false (by omega)
                    have HRV := Lib.hid (show R = false from by rw [HR2.out, decide_eq_false (show ¬ (mf < 0 ∧ kids ≤ 2048 ∨ 0 ≤ mf ∧ kids ≤ mf) from by omega), Bool.and_false])
                    go_wp2_with fail
                    go_quiet (first | (refine Calls.quiet_of_same (HL.out _)) | (refine Calls.quiet_of_same (HM.out _)))
                    go_wp2_with fail
                    go_ret
                    exact ⟨ret_bool (by rw [HRV.out]), below_drewN HB0.out nq⟩
                · have d5 : decide (mf < 0) = false := decide_eq_false m0
                  by_cases k2 : kids ≤ mf
                  · have d6 : decide (kids ≤ mf) = true := decide_eq_true k2
                    have HRV := Lib.hid (show R = true from by rw [HR2.out, d4, decide_eq_true (show mf < 0 ∧ kids ≤ 2048 ∨ 0 ≤ mf ∧ kids ≤ mf from by omega)]; rfl)
                    go_wp2_with fail
                    go_quiet (first | (refine Calls.quiet_of_same (HL.out _)) | (refine Calls.quiet_of_same (HM.out _)))
                    go_wp2_with fail
                    go_ret
                    exact ⟨ret_bool (by rw [HRV.out]), below_drewN HB0.out nq⟩
                  · have d6 : decide (kids ≤ mf) = false := decide_eq_false k2
                    have HRV := Lib.hid (show R = false from by rw [HR2.out, decide_eq_false (show ¬ (mf < 0 ∧ kids ≤ 2048 ∨ 0 ≤ mf ∧ kids ≤ mf) from by omega), Bool.and_false])
                    go_wp2_with fail
                    go_quiet (first | (refine Calls.quiet_of_same (HL.out _)) | (refine Calls.quiet_of_same (HM.out _)))
                    go_wp2_with fail
                    go_ret
                    exact ⟨ret_bool (by rw [HRV.out]), below_drewN HB0.out nq⟩
              · have d4 : decide ((lf : Int) ≤ kids) = false := decide_eq_false k1
                have HRV := Lib.hid (show R = false from by rw [HR2.out, d4]; rfl)
                go_wp2_with fail
                go_quiet (first | (refine Calls.quiet_of_same (HL.out _)) | (refine Calls.quiet_of_same (HM.out _)))
                go_wp2_with fail
                go_ret
                exact ⟨ret_bool (by rw [HRV.out]), below_drewN HB0.out nq⟩
            · cases v
              · clear t1 t2
                by_cases k1 : (lf : Int) ≤ kids
                · have d4 : decide ((lf : Int) ≤ kids) = true := decide_eq_true k1
                  by_cases m0 : mf < 0
                  · have d5 : decide (mf < 0) = true := decide_eq_true m0
                    by_cases k2 : kids ≤ 2048
                    · have d6 : decide (kids ≤ 2048) = true := decide_eq_true k2
                      have HRV := Lib.hid (show R = true from by rw [HR2.out, d4, decide_eq_true (.inl ⟨m0, k2⟩)]; rfl)
                      go_wp2_with fail
                      go_quiet (first | (refine Calls.quiet_of_same (HL.out _)) | (refine Calls.quiet_of_same (HM.out _)))
                      go_wp2_with fail
                      go_ret
                      exact ⟨ret_bool (by rw [HRV.out]), below_drewN HB0.out nq⟩
                    · have d6 : decide (kids ≤ 2048) = false := decide_eq_false k2
                      have d7 : decide (kids ≤ mf) = false := decide_eq_false (by omega)
                      have HRV := Lib.hid (show R = false from by rw [HR2.out, decide_eq_false (show ¬ (mf < 0 ∧ kids ≤ 2048 ∨ 0 ≤ mf ∧ kids ≤ mf) from by omega), Bool.and_false])
                      go_wp2_with fail
                      go_quiet (first | (refine Calls.quiet_of_same (HL.out _)) | (refine Calls.quiet_of_same (HM.out _)))
                      go_wp2_with fail
                      go_ret
                      exact ⟨ret_bool (by rw [HRV.out]), below_drewN HB0.out nq⟩
                  · have d5 : decide (mf < 0) = false := decide_eq_false m0
                    by_cases k2 : kids ≤ mf
                    · have d6 : decide (kids ≤ mf) = true := decide_eq_true k2
                      have HRV := Lib.hid (show R = true from by rw [HR2.out, d4, decide_eq_true (show mf < 0 ∧ kids ≤ 2048 ∨ 0 ≤ mf ∧ kids ≤ mf from by omega)]; rfl)
                      go_wp2_with fail
                      go_quiet (first | (refine Calls.quiet_of_same (HL.out _)) | (refine Calls.quiet_of_same (HM.out _)))
                      go_wp2_with fail
                      go_ret
                      exact ⟨ret_bool (by rw [HRV.out]), below_drewN HB0.out nq⟩
                    · have d6 : decide (kids ≤ mf) = false := decide_eq_false k2
                      have HRV := Lib.hid (show R = false from by rw [HR2.out, decide_eq_false (show ¬ (mf < 0 ∧ kids ≤ 2048 ∨ 0 ≤ mf ∧ kids ≤ mf) from by omega), Bool.and_false])
                      go_wp2_with fail
                      go_quiet (first | (refine Calls.quiet_of_same (HL.out _)) | (refine Calls.quiet_of_same (HM.out _)))
                      go_wp2_with fail
                      go_ret
                      exact ⟨ret_bool (by rw [HRV.out]), below_drewN HB0.out nq⟩
                · have d4 : decide ((lf : Int) ≤ kids) = false := decide_eq_false k1
                  have HRV := Lib.hid (show R = false from by rw [HR2.out, d4]; rfl)
                  go_wp2_with fail
                  go_quiet (first | (refine Calls.quiet_of_same (HL.out _)) | (refine Calls.quiet_of_same (HM.out _)))
                  go_wp2_with fail
                  go_ret
                  exact ⟨ret_bool (by rw [HRV.out]), below_drewN HB0.out nq⟩
              · cases huv
    · have d24 : ((op : Int) == 24) = false := eqf (by omega)
      cases hem : text.toList.isEmpty
      · have HRF := Lib.hid (show R = false from by rw [HR0.out, if_neg (by simp), if_neg h24, hem]; rfl)
        clear h24
        go_wp2_with fail
        go_ret
        exact ⟨ret_bool (by rw [HRF.out]), HB0.out⟩
      · have HR := Lib.hid (show R = (decide (0 ≤ int ∧ (int = 0 ∨ op = 23)) && (decide ((lf : Int) ≤ kids) && decide (mf < 0 ∧ kids ≤ 2048 ∨ 0 ≤ mf ∧ kids ≤ mf))) from by rw [HR0.out, if_neg (by simp), if_neg h24, hem, Bool.true_and])
        clear h24
        by_cases t1 : int < 0
        · have d1 : decide (int < 0) = true := decide_eq_true t1
          have HRF := Lib.hid (show R = false from by rw [HR.out, decide_eq_false (show ¬ (0 ≤ int ∧ (int = 0 ∨ op = 23)) from by omega)]; rfl)
          go_wp2_with fail
          go_ret
          exact ⟨ret_bool (by rw [HRF.out]), HB0.out⟩
        · have d1 : decide (int < 0) = false := decide_eq_false t1
          by_cases t2 : 0 < int ∧ op ≠ 23
          · obtain ⟨t3, t4⟩ := t2
            have d2 : decide (0 < int) = true := decide_eq_true t3
            have d3 : ((op : Int) != 23) = true := by rw [bne_iff_ne]; omega
            have HRF := Lib.hid (show R = false from by rw [HR.out, decide_eq_false (show ¬ (0 ≤ int ∧ (int = 0 ∨ op = 23)) from by omega)]; rfl)
            go_wp2_with fail
            go_ret
            exact ⟨ret_bool (by rw [HRF.out]), HB0.out⟩
          · have HR2 := Lib.hid (show R = (decide ((lf : Int) ≤ kids) && decide (mf < 0 ∧ kids ≤ 2048 ∨ 0 ≤ mf ∧ kids ≤ mf)) from by rw [HR.out, decide_eq_true (show 0 ≤ int ∧ (int = 0 ∨ op = 23) from by omega)]; rfl)
            clear HR
            have dd : ∃ u v : Bool, decide (0 < int) = u ∧ ((op : Int) != 23) = v ∧ (u && v) = false := by
              refine ⟨_, _, rfl, rfl, ?_⟩
              rw [Bool.and_eq_false_iff, decide_eq_false_iff_not, bne_eq_false_iff_eq]
              omega
            obtain ⟨u, v, hu, hv, huv⟩ := dd
            cases u
            · clear t1 t2
              by_cases k1 : (lf : Int) ≤ kids
              · have d4 : decide ((lf : Int) ≤ kids) = true := decide_eq_true k1
                by_cases m0 : mf < 0
                · have d5 : decide (mf < 0) = true := decide_eq_true m0
                  by_cases k2 : kids ≤ 2048
                  · have d6 : decide (kids ≤ 2048) = true := decide_eq_true k2
                    have HRV := Lib.hid (show R = true from by rw [HR2.out, d4, decide_eq_true (.inl ⟨m0, k2⟩)]; rfl)
                    go_wp2_with fail
                    go_quiet (first | (refine Calls.quiet_of_same (HL.out _)) | (refine Calls.quiet_of_same (HM.out _)))
                    go_wp2_with fail
                    go_ret
                    exact ⟨ret_bool (by rw [HRV.out]), below_drewN HB0.out nq⟩
                  · have d6 : decide (kids ≤ 2048) = false := decide_eq_false k2
                    have d7 : decide (kids ≤ mf) = false := decide_eq_false (by omega)
                    have HRV := Lib.hid (show R = false from by rw [HR2.out, decide_eq_false (show ¬ (mf < 0 ∧ kids ≤ 2048 ∨ 0 ≤ mf ∧ kids ≤ mf) from by omega), Bool.and_false])
                    go_wp2_with fail
                    go_quiet (first | (refine Calls.quiet_of_same (HL.out _)) | (refine Calls.quiet_of_same (HM.out _)))
                    go_wp2_with fail
                    go_ret
                    exact ⟨ret_bool (by rw [HRV.out]), below_drewN HB0.out nq⟩
                · have d5 : decide (mf < 0) = false := decide_eq_false m0
                  by_cases k2 : kids ≤ mf
                  · have d6 : decide (kids ≤ mf) = true := decide_eq_true k2
                    have HRV := Lib.hid (show R = true from by rw [HR2.out, d4, decide_eq_true (show mf < 0 ∧ kids ≤ 2048 ∨ 0 ≤ mf ∧ kids ≤ mf from by omega)]; rfl)
                    go_wp2_with fail
                    go_quiet (first | (refine Calls.quiet_of_same (HL.out _)) | (refine Calls.quiet_of_same (HM.out _)))
                    go_wp2_with fail
                    go_ret
                    exact ⟨ret_bool (by rw [HRV.out]), below_drewN HB0.out nq⟩
                  · have d6 : decide (kids ≤ mf) = false := decide_eq_false k2
                    have HRV := Lib.hid (show R = false from by rw [HR2.out, decide_eq_false (show ¬ (mf < 0 ∧ kids ≤ 2048 ∨ 0 ≤ mf ∧ kids ≤ mf) from by omega), Bool.and_false])
                    go_wp2_with fail
                    go_quiet (first | (refine Calls.quiet_of_same (HL.out _)) | (refine Calls.quiet_of_same (HM.out _)))
                    go_wp2_with fail
                    go_ret
                    exact ⟨ret_bool (by rw [HRV.out]), below_drewN HB0.out nq⟩
              · have d4 : decide ((lf : Int) ≤ kids) = false := decide_eq_false k1
                have HRV := Lib.hid (show R = false from by rw [HR2.out, d4]; rfl)
                go_wp2_with fail
                go_quiet (first | (refine Calls.quiet_of_same (HL.out _)) | (refine Calls.quiet_of_same (HM.out _)))
                go_wp2_with fail
                go_ret
                exact ⟨ret_bool (by rw [HRV.out]), below_drewN HB0.out nq⟩
            · cases v
              · clear t1 t2
                by_cases k1 : (lf : Int) ≤ kids
                · have d4 : decide ((lf : Int) ≤ kids) = true := decide_eq_true k1
                  by_cases m0 : mf < 0
                  · have d5 : decide (mf < 0) = true := decide_eq_true m0
                    by_cases k2 : kids ≤ 2048
                    · have d6 : decide (kids ≤ 2048) = true := decide_eq_true k2
                      have HRV := Lib.hid (show R = true from by rw [HR2.out, d4, decide_eq_true (.inl ⟨m0, k2⟩)]; rfl)
                      go_wp2_with fail
                      go_quiet (first | (refine Calls.quiet_of_same (HL.out _)) | (refine Calls.quiet_of_same (HM.out _)))
                      go_wp2_with fail
                      go_ret
                      exact ⟨ret_bool (by rw [HRV.out]), below_drewN HB0.out nq⟩
                    · have d6 : decide (kids ≤ 2048) = false := decide_eq_false k2
                      have d7 : decide (kids ≤ mf) = false := decide_eq_false (by omega)
                      have HRV := Lib.hid (show R = false from by rw [HR2.out, decide_eq_false (show ¬ (mf < 0 ∧ kids ≤ 2048 ∨ 0 ≤ mf ∧ kids ≤ mf) from by omega), Bool.and_false])
                      go_wp2_with fail
                      go_quiet (first | (refine Calls.quiet_of_same (HL.out _)) | (refine Calls.quiet_of_same (HM.out _)))
                      go_wp2_with fail
                      go_ret
                      exact ⟨ret_bool (by rw [HRV.out]), below_drewN HB0.out nq⟩
                  · have d5 : decide (mf < 0) = false := decide_eq_false m0
                    by_cases k2 : kids ≤ mf
                    · have d6 : decide (kids ≤ mf) = true := decide_eq_true k2
                      have HRV := Lib.hid (show R = true from by rw [HR2.out, d4, decide_eq_true (show mf < 0 ∧ kids ≤ 2048 ∨ 0 ≤ mf ∧ kids ≤ mf from by omega)]; rfl)
                      go_wp2_with fail
                      go_quiet (first | (refine Calls.quiet_of_same (HL.out _)) | (refine Calls.quiet_of_same (HM.out _)))
                      go_wp2_with fail
                      go_ret
                      exact ⟨ret_bool (by rw [HRV.out]), below_drewN HB0.out nq⟩
                    · have d6 : decide (kids ≤ mf) = false := decide_eq_false k2
                      have HRV := Lib.hid (show R = false from by rw [HR2.out, decide_eq_false (show ¬ (mf < 0 ∧ kids ≤ 2048 ∨ 0 ≤ mf ∧ kids ≤ mf) from by omega), Bool.and_false])
                      go_wp2_with fail
                      go_quiet (first | (refine Calls.quiet_of_same (HL.out _)) | (refine Calls.quiet_of_same (HM.out _)))
                      go_wp2_with fail
                      go_ret
                      exact ⟨ret_bool (by rw [HRV.out]), below_drewN HB0.out nq⟩
                · have d4 : decide ((lf : Int) ≤ kids) = false := decide_eq_false k1
                  have HRV := Lib.hid (show R = false from by rw [HR2.out, d4]; rfl)
                  go_wp2_with fail
                  go_quiet (first | (refine Calls.quiet_of_same (HL.out _)) | (refine Calls.quiet_of_same (HM.out _)))
                  go_wp2_with fail
                  go_ret
                  exact ⟨ret_bool (by rw [HRV.out]), below_drewN HB0.out nq⟩
              · cases huv
  · go_wp2_with fail
    refine (HO.out w0).mono ?_
    rintro e w5 ⟨rfl, hb5⟩
    have HX5 := Lib.hid (HX.out.below hb5 HX.out.lt)
    have HB5 := Lib.hid (HB0.out.trans (hb5.mono HB0.out.size))
    have z0 : w5.cell? ⟨bx, 0, none⟩ = some (.int .u8 (op : Nat)) := HX5.out.cell 0
    have z1 : w5.cell? ⟨bx, 1, none⟩ = some (.int .i64 kids) := HX5.out.cell 1
    have z2 : w5.cell? ⟨bx, 2, none⟩ = some (.int .i64 int) := HX5.out.cell 2
    have z3 : w5.cell? ⟨bx, 3, none⟩ = some (.string text) := HX5.out.cell 3
    clear hb5 y0 y1 y2 y3
    cases ob
    · have HRF := Lib.hid (show R = false from by rw [HR0.out]; rfl)
      go_wp2_with fail
      go_ret
      exact ⟨ret_bool (by rw [HRF.out]), HB5.out⟩
    · have HR := Lib.hid (show R = (decide (0 ≤ int ∧ (int = 0 ∨ op = 23)) && (decide ((lf : Int) ≤ kids) && decide (mf < 0 ∧ kids ≤ 2048 ∨ 0 ≤ mf ∧ kids ≤ mf))) from by rw [HR0.out]; rfl)
      by_cases t1 : int < 0
      · have d1 : decide (int < 0) = true := decide_eq_true t1
        have HRF := Lib.hid (show R = false from by rw [HR.out, decide_eq_false (show ¬ (0 ≤ int ∧ (int = 0 ∨ op = 23)) from by omega)]; rfl)
        go_wp2_with fail
        go_ret
        exact ⟨ret_bool (by rw [HRF.out]), HB5.out⟩
      · have d1 : decide (int < 0) = false := decide_eq_false t1
        by_cases t2 : 0 < int ∧ op ≠ 23
        · obtain ⟨t3, t4⟩ := t2
          have d2 : decide (0 < int) = true := decide_eq_true t3
          have d3 : ((op : Int) != 23) = true := by rw [bne_iff_ne]; omega
          have HRF := Lib.hid (show R = false from by rw [HR.out, decide_eq_false (show ¬ (0 ≤ int ∧ (int = 0 ∨ op = 23)) from by omega)]; rfl)
          go_wp2_with fail
          go_ret
          exact ⟨ret_bool (by rw [HRF.out]), HB5.out⟩
        · have HR2 := Lib.hid (show R = (decide ((lf : Int) ≤ kids) && decide (mf < 0 ∧ kids ≤ 2048 ∨ 0 ≤ mf ∧ kids ≤ mf)) from by rw [HR.out, decide_eq_true (show 0 ≤ int ∧ (int = 0 ∨ op = 23) from by omega)]; rfl)
          clear HR
          have dd : ∃ u v : Bool, decide (0 < int) = u ∧ ((op : Int) != 23) = v ∧ (u && v) = false := by
            refine ⟨_, _, rfl, rfl, ?_⟩
            rw [Bool.and_eq_false_iff, decide_eq_false_iff_not, bne_eq_false_iff_eq]
            omega
          obtain ⟨u, v, hu, hv, huv⟩ := dd
          cases u
          · clear t1 t2
            by_cases k1 : (lf : Int) ≤ kids
            · have d4 : decide ((lf : Int) ≤ kids) = true := decide_eq_true k1
              by_cases m0 : mf < 0
              · have d5 : decide (mf < 0) = true := decide_eq_true m0
                by_cases k2 : kids ≤ 2048
                · have d6 : decide (kids ≤ 2048) = true := decide_eq_true k2
                  have HRV := Lib.hid (show R = true from by rw [HR2.out, d4, decide_eq_true (.inl ⟨m0, k2⟩)]; rfl)
                  go_wp2_with fail
                  go_quiet (first | (refine Calls.quiet_of_same (HL.out _)) | (refine Calls.quiet_of_same (HM.out _)))
                  go_wp2_with fail
                  go_ret
                  exact ⟨ret_bool (by rw [HRV.out]), below_drewN HB5.out nq⟩
                · have d6 : decide (kids ≤ 2048) = false := decide_eq_false k2
                  have d7 : decide (kids ≤ mf) = false := decide_eq_false (by omega)
                  have HRV := Lib.hid (show R = false from by rw [HR2.out, decide_eq_false (show ¬ (mf < 0 ∧ kids ≤ 2048 ∨ 0 ≤ mf ∧ kids ≤ mf) from by omega), Bool.and_false])
                  go_wp2_with fail
                  go_quiet (first | (refine Calls.quiet_of_same (HL.out _)) | (refine Calls.quiet_of_same (HM.out _)))
                  go_wp2_with fail
                  go_ret
                  exact ⟨ret_bool (by rw [HRV.out]), below_drewN HB5.out nq⟩
              · have d5 : decide (mf < 0) = false := decide_eq_false m0
                by_cases k2 : kids ≤ mf
                · have d6 : decide (kids ≤ mf) = true := decide_eq_true k2
                  have HRV := Lib.hid (show R = true from by rw [HR2.out, d4, decide_eq_true (show mf < 0 ∧ kids ≤ 2048 ∨ 0 ≤ mf ∧ kids ≤ mf from by omega)]; rfl)
                  go_wp2_with fail
                  go_quiet (first | (refine Calls.quiet_of_same (HL.out _)) | (refine Calls.quiet_of_same (HM.out _)))
                  go_wp2_with fail
                  go_ret
                  exact ⟨ret_bool (by rw [HRV.out]), below_drewN HB5.out nq⟩
                · have d6 : decide (kids ≤ mf) = false := decide_eq_false k2
                  have HRV := Lib.hid (show R = false from by rw [HR2.out, decide_eq_false (show ¬ (mf < 0 ∧ kids ≤ 2048 ∨ 0 ≤ mf ∧ kids ≤ mf) from by omega), Bool.and_false])
                  go_wp2_with fail
                  go_quiet (first | (refine Calls.quiet_of_same (HL.out _)) | (refine Calls.quiet_of_same (HM.out _)))
                  go_wp2_with fail
                  go_ret
                  exact ⟨ret_bool (by rw [HRV.out]), below_drewN HB5.out nq⟩
            · have d4 : decide ((lf : Int) ≤ kids) = false := decide_eq_false k1
              have HRV := Lib.hid (show R = false from by rw [HR2.out, d4]; rfl)
              go_wp2_with fail
              go_quiet (first | (refine Calls.quiet_of_same (HL.out _)) | (refine Calls.quiet_of_same (HM.out _)))
              go_wp2_with fail
              go_ret
              exact ⟨ret_bool (by rw [HRV.out]), below_drewN HB5.out nq⟩
          · cases v
            · clear t1 t2
              by_cases k1 : (lf : Int) ≤ kids
              · have d4 : decide ((lf : Int) ≤ kids) = true := decide_eq_true k1
                by_cases m0 : mf < 0
                · have d5 : decide (mf < 0) = true := decide_eq_true m0
                  by_cases k2 : kids ≤ 2048
                  · have d6 : decide (kids ≤ 2048) = true := decide_eq_true k2
                    have HRV := Lib.hid (show R = true from by rw [HR2.out, d4, decide_eq_true (.inl ⟨m0, k2⟩)]; rfl)
                    go_wp2_with fail
                    go_quiet (first | (refine Calls.quiet_of_same (HL.out _)) | (refine Calls.quiet_of_same (HM.out _)))
                    go_wp2_with fail
                    go_ret
                    exact ⟨ret_bool (by rw [HRV.out]), below_drewN HB5.out nq⟩
                  · have d6 : decide (kids ≤ 2048) = false := decide_eq_false k2
                    have d7 : decide (kids ≤ mf) = false := decide_eq_false (by omega)
                    have HRV := Lib.hid (show R = false from by rw [HR2.out, decide_eq_false (show ¬ (mf < 0 ∧ kids ≤ 2048 ∨ 0 ≤ mf ∧ kids ≤ mf) from by omega), Bool.and_false])
                    go_wp2_with fail
                    go_quiet (first | (refine Calls.quiet_of_same (HL.out _)) | (refine Calls.quiet_of_same (HM.out _)))
                    go_wp2_with fail
                    go_ret
                    exact ⟨ret_bool (by rw [HRV.out]), below_drewN HB5.out nq⟩
                · have d5 : decide (mf < 0) = false := decide_eq_false m0
                  by_cases k2 : kids ≤ mf
                  · have d6 : decide (kids ≤ mf) = true := decide_eq_true k2
                    have HRV := Lib.hid (show R = true from by rw [HR2.out, d4, decide_eq_true (show mf < 0 ∧ kids ≤ 2048 ∨ 0 ≤ mf ∧ kids ≤ mf from by omega)]; rfl)
                    go_wp2_with fail
                    go_quiet (first | (refine Calls.quiet_of_same (HL.out _)) | (refine Calls.quiet_of_same (HM.out _)))
                    go_wp2_with fail
                    go_ret
                    exact ⟨ret_bool (by rw [HRV.out]), below_drewN HB5.out nq⟩
                  · have d6 : decide (kids ≤ mf) = false := decide_eq_false k2
                    have HRV := Lib.hid (show R = false from by rw [HR2.out, decide_eq_false (show ¬ (mf < 0 ∧ kids ≤ 2048 ∨ 0 ≤ mf ∧ kids ≤ mf) from by omega), Bool.and_false])
                    go_wp2_with fail
                    go_quiet (first | (refine Calls.quiet_of_same (HL.out _)) | (refine Calls.quiet_of_same (HM.out _)))
                    go_wp2_with fail
                    go_ret
                    exact ⟨ret_bool (by rw [HRV.out]), below_drewN HB5.out nq⟩
              · have d4 : decide ((lf : Int) ≤ kids) = false := decide_eq_false k1
                have HRV := Lib.hid (show R = false from by rw [HR2.out, d4]; rfl)
                go_wp2_with fail
                go_quiet (first | (refine Calls.quiet_of_same (HL.out _)) | (refine Calls.quiet_of_same (HM.out _)))
                go_wp2_with fail
                go_ret
                exact ⟨ret_bool (by rw [HRV.out]), below_drewN HB5.out nq⟩
            · cases huv
end Go.Proofs.Ytbcadlocldplfaa.T8
