/- Plain law: how many tokens a right tree is shown as; what is shown of twigs. No program in sight. And what follows from it. -/
import Derived.Deep.QuietTactic
import Derived.BigQuiet
import Derived.Test.YtbcadlocldplfaaDoorQli
import Derived.Test.YtbcadlocldplfaaDoorQlj
import Derived.Test.YtbcadlocldplfaaDoorQlk
import Derived.Test.YtbcadlocldplfaaDoorQll
import Derived.Test.YtbcadlocldplfaaDoorQlm
import Derived.Test.YtbcadlocldplfaaDoorQlo
set_option linter.unusedSimpArgs false
set_option linter.unusedVariables false
namespace Go.Proofs.YtbcadlocldplfaaDoor
open T8
def Few (a : Nat) (T : Tr) : Prop := (sh T a).length + 1 ≤ 8 * T.flat.length
theorem few_br {x : Tw} {ks : List Tr} {n : Nat} (hl : (bareS x (shs ks)).length ≤ n) (hn : n + 3 ≤ 8 * (Tr.node x ks).flat.length) {a : Nat} (ha : a ≤ 9) : Few a (.node x ks) := by
  unfold Few
  rw [sh_expr x ks ha]
  split
  · rw [List.length_cons, List.length_append, List.length_singleton]; omega
  · omega
theorem few_commas {m : Nat} : ∀ {ks : List Tr}, (∀ k ∈ ks, Few m k) → (commas m (shs ks)).length ≤ 8 * (flats ks).length
  | [], _ => by rw [shs, commas]; exact Nat.zero_le _
  | [k], h => by
    have := h k (by simp)
    unfold Few at this
    rw [shs, shs, commas, flats, List.length_append]; omega
  | k :: j :: ks, h => by
    have h1 := h k (by simp)
    have h2 := few_commas (ks := j :: ks) (m := m) (fun i hi => h i (by simp [hi]))
    unfold Few at h1
    rw [show shs (k :: j :: ks) = sh k :: sh j :: shs ks from by rw [shs, shs], commas, flats, List.length_append, List.length_cons, List.length_append]
    rw [show shs (j :: ks) = sh j :: shs ks from by rw [shs]] at h2
    omega
theorem few_all {m : Nat} : ∀ {ks : List Tr}, (∀ k ∈ ks, Few m k) → (allS m (shs ks)).length ≤ 8 * (flats ks).length
  | [], _ => by rw [shs]; exact Nat.zero_le _
  | k :: ks, h => by
    have h1 := h k (by simp)
    have h2 := few_all (ks := ks) (m := m) (fun i hi => h i (by simp [hi]))
    unfold Few at h1
    unfold allS at h2 ⊢
    rw [shs, List.flatMap_cons, List.length_append, flats, List.length_append]
    omega
theorem lis_few {o e : List UInt8} {ks : List Tr} (h : ∀ k ∈ ks, Few 1 k) : (lisS o (shs ks) e).length ≤ 8 * (flats ks).length + 2 := by
  have := few_commas h
  unfold lisS
  rw [List.length_cons, List.length_append, List.length_singleton]
  omega
theorem fl1 (k : Tr) : (flats [k]).length = k.flat.length := by simp [flats]
theorem fl2 (k j : Tr) : (flats [k, j]).length = k.flat.length + j.flat.length := by simp [flats]
theorem fl3 (k j i : Tr) : (flats [k, j, i]).length = k.flat.length + (j.flat.length + i.flat.length) := by simp [flats]
theorem fln (x : Tw) (ks : List Tr) : (Tr.node x ks).flat.length = (flats ks).length + 1 := by rw [Tr.flat, List.length_cons]
theorem shs1 (k : Tr) : shs [k] = [sh k] := by rw [shs, shs]
theorem shs2 (k j : Tr) : shs [k, j] = [sh k, sh j] := by rw [shs, shs, shs]
theorem shs3 (k j i : Tr) : shs [k, j, i] = [sh k, sh j, sh i] := by rw [shs, shs, shs, shs]
theorem mem_one {P : Tr → Prop} {k : Tr} (h : P k) : ∀ x ∈ [k], P x := by
  intro x hx
  rw [List.mem_singleton.1 hx]; exact h
theorem mem_duo {P : Tr → Prop} {k j : Tr} (h : P k) (h2 : P j) : ∀ x ∈ [k, j], P x := by
  intro x hx
  simp only [List.mem_cons, List.not_mem_nil, or_false] at hx
  rcases hx with rfl | rfl
  · exact h
  · exact h2
theorem few_any {kd : Nat} {t : Tr} (h : Rt kd t) : (kd = 0 → ∀ a, a ≤ 9 → Few a t) ∧ (kd = 1 → Few 10 t) ∧ (kd = 2 → Few 11 t) := by
  induction h with
  | @word op ho =>
    refine ⟨fun _ a ha => few_br (n := 1) ?_ (by rw [fln]; omega) ha, fun h => (by cases h), fun h => (by cases h)⟩
    rcases ho with rfl | rfl | rfl | rfl <;> exact Nat.le_refl _
  | int i => exact ⟨fun _ a ha => few_br (n := 1) (Nat.le_refl _) (by rw [fln]; omega) ha, fun h => (by cases h), fun h => (by cases h)⟩
  | text s => exact ⟨fun _ a ha => few_br (n := 1) (Nat.le_refl _) (by rw [fln]; omega) ha, fun h => (by cases h), fun h => (by cases h)⟩
  | name hs => exact ⟨fun _ a ha => few_br (n := 1) (Nat.le_refl _) (by rw [fln]; omega) ha, fun h => (by cases h), fun h => (by cases h)⟩
  | take hs => exact ⟨fun _ a ha => few_br (n := 2) (Nat.le_refl _) (by rw [fln]; omega) ha, fun h => (by cases h), fun h => (by cases h)⟩
  | @list ks h ih =>
    refine ⟨fun _ a ha => few_br (n := 8 * (flats ks).length + 2) ?_ (by rw [fln]; omega) ha, fun h => (by cases h), fun h => (by cases h)⟩
    show (lisS [91] (shs ks) [93]).length ≤ _
    exact lis_few fun k hk => (ih k hk).1 rfl 1 (by omega)
  | @call op s ks ho hs h ih =>
    refine ⟨fun _ a ha => few_br (n := 8 * (flats ks).length + 4) ?_ (by rw [fln]; omega) ha, fun h => (by cases h), fun h => (by cases h)⟩
    have h1 := lis_few (o := [40]) (e := [41]) (fun k hk => (ih k hk).1 rfl 1 (by omega))
    rcases ho with rfl | rfl
    · show (wd [99, 97, 108, 108] :: wt s :: lisS [40] (shs ks) [41]).length ≤ _
      rw [List.length_cons, List.length_cons]; omega
    · show (wd [99, 104, 105, 108, 100] :: wt s :: lisS [40] (shs ks) [41]).length ≤ _
      rw [List.length_cons, List.length_cons]; omega
  | @one op k ho h ih =>
    refine ⟨fun _ a ha => few_br (n := 8 * (flats [k]).length + 3) ?_ (by rw [fln]; omega) ha, fun h => (by cases h), fun h => (by cases h)⟩
    have h1 := lis_few (o := [40]) (e := [41]) (mem_one (ih.1 rfl 1 (by omega)))
    have e : bareS ⟨op, 1, 0, bs []⟩ (shs [k]) = oneT op :: lisS [40] (shs [k]) [41] := by rcases ho with rfl | rfl | rfl | rfl | rfl <;> rfl
    rw [e, List.length_cons]; omega
  | @num k j h h2 ih ih2 =>
    refine ⟨fun _ a ha => few_br (n := 8 * (flats [k, j]).length + 3) ?_ (by rw [fln]; omega) ha, fun h => (by cases h), fun h => (by cases h)⟩
    have h1 := lis_few (o := [40]) (e := [41]) (mem_duo (ih.1 rfl 1 (by omega)) (ih2.1 rfl 1 (by omega)))
    show (oneT 41 :: lisS [40] (shs [k, j]) [41]).length ≤ _
    rw [List.length_cons]; omega
  | @fork k h ih =>
    refine ⟨fun _ a ha => few_br (n := 8 * (flats [k]).length) ?_ (by rw [fln]; omega) ha, fun h => (by cases h), fun h => (by cases h)⟩
    have h1 := ih.2.1 rfl
    unfold Few at h1
    rw [shs1, fl1]
    show (wd [102, 111, 114, 107] :: sh k 10).length ≤ _
    rw [List.length_cons]; omega
  | @not k h ih =>
    refine ⟨fun _ a ha => few_br (n := 8 * (flats [k]).length) ?_ (by rw [fln]; omega) ha, fun h => (by cases h), fun h => (by cases h)⟩
    have h1 := ih.1 rfl 3 (by omega)
    unfold Few at h1
    rw [shs1, fl1]
    show (wd [110, 111, 116] :: sh k 3).length ≤ _
    rw [List.length_cons]; omega
  | @pre op k ho h ih =>
    refine ⟨fun _ a ha => few_br (n := 8 * (flats [k]).length) ?_ (by rw [fln]; omega) ha, fun h => (by cases h), fun h => (by cases h)⟩
    have h1 := ih.1 rfl 7 (by omega)
    unfold Few at h1
    rw [shs1, fl1]
    rcases ho with rfl | rfl | rfl
    · show (sg [45] :: sh k 7).length ≤ _
      rw [List.length_cons]; omega
    · show (wd [97, 119, 97, 105, 116] :: sh k 7).length ≤ _
      rw [List.length_cons]; omega
    · show (wd [115, 101, 116, 116, 108, 101] :: sh k 7).length ≤ _
      rw [List.length_cons]; omega
  | @at_ k j h h2 ih ih2 =>
    refine ⟨fun _ a ha => few_br (n := 8 * (flats [k, j]).length) ?_ (by rw [fln]; omega) ha, fun h => (by cases h), fun h => (by cases h)⟩
    have h1 := ih.1 rfl 8 (by omega)
    have h2 := ih2.1 rfl 1 (by omega)
    unfold Few at h1 h2
    rw [shs2, fl2]
    show (sh k 8 ++ sg [91] :: (sh j 1 ++ [sg [93]])).length ≤ _
    rw [List.length_append, List.length_cons, List.length_append, List.length_singleton]; omega
  | @cmp op k j ho h h2 ih ih2 =>
    refine ⟨fun _ a ha => few_br (n := 8 * (flats [k, j]).length) ?_ (by rw [fln]; omega) ha, fun h => (by cases h), fun h => (by cases h)⟩
    have h1 := ih.1 rfl 5 (by omega)
    have h2 := ih2.1 rfl 5 (by omega)
    unfold Few at h1 h2
    rw [shs2, fl2]
    have e : bareS ⟨op, 2, 0, bs []⟩ [sh k, sh j] = sh k 5 ++ midT op :: sh j 5 := by
      have : op = 32 ∨ op = 33 ∨ op = 34 ∨ op = 35 := by omega
      rcases this with rfl | rfl | rfl | rfl <;> rfl
    rw [e, List.length_append, List.length_cons]; omega
  | @bin op k j ho h h2 ih ih2 =>
    refine ⟨fun _ a ha => few_br (n := 8 * (flats [k, j]).length) ?_ (by rw [fln]; omega) ha, fun h => (by cases h), fun h => (by cases h)⟩
    have hw : width op ≤ 6 := by
      have : op = 30 ∨ op = 31 ∨ op = 36 ∨ op = 37 ∨ op = 38 ∨ op = 39 ∨ op = 40 := by omega
      rcases this with rfl | rfl | rfl | rfl | rfl | rfl | rfl <;> decide
    have h1 := ih.1 rfl (width op) (by omega)
    have h2 := ih2.1 rfl (width op + 1) (by omega)
    unfold Few at h1 h2
    rw [shs2, fl2]
    have e : bareS ⟨op, 2, 0, bs []⟩ [sh k, sh j] = sh k (width op) ++ midT op :: sh j (width op + 1) := by
      have : op = 30 ∨ op = 31 ∨ op = 36 ∨ op = 37 ∨ op = 38 ∨ op = 39 ∨ op = 40 := by omega
      rcases this with rfl | rfl | rfl | rfl | rfl | rfl | rfl <;> rfl
    rw [e, List.length_append, List.length_cons]; omega
  | @block ks h ih =>
    refine ⟨fun h => (by cases h), fun _ => ?_, fun h => (by cases h)⟩
    have h1 := few_all (m := 11) (fun k hk => (ih k hk).2.2 rfl)
    unfold Few
    rw [sh_node, fln]
    show (blockS (shs ks)).length + 1 ≤ _
    unfold blockS
    rw [List.length_cons, List.length_append, List.length_singleton]; omega
  | @put op s k ho hs h ih =>
    refine ⟨fun h => (by cases h), fun h => (by cases h), fun _ => ?_⟩
    have h1 := ih.1 rfl 1 (by omega)
    unfold Few at h1 ⊢
    rw [sh_node, fln, shs1, fl1]
    rcases ho with rfl | rfl
    · show (wd [108, 101, 116] :: wt s :: sg [61] :: sh k 1).length + 1 ≤ _
      rw [List.length_cons, List.length_cons, List.length_cons]; omega
    · show (wt s :: sg [61] :: sh k 1).length + 1 ≤ _
      rw [List.length_cons, List.length_cons]; omega
  | @if2 k j h h2 ih ih2 =>
    refine ⟨fun h => (by cases h), fun h => (by cases h), fun _ => ?_⟩
    have h1 := ih.1 rfl 1 (by omega)
    have h2 := ih2.2.1 rfl
    unfold Few at h1 h2 ⊢
    rw [sh_node, fln, shs2, fl2]
    show (wd [105, 102] :: (sh k 1 ++ (sh j 10 ++ []))).length + 1 ≤ _
    rw [List.length_cons, List.length_append, List.length_append, List.length_nil]; omega
  | @if3 k j i h h2 h3 ih ih2 ih3 =>
    refine ⟨fun h => (by cases h), fun h => (by cases h), fun _ => ?_⟩
    have h1 := ih.1 rfl 1 (by omega)
    have h2 := ih2.2.1 rfl
    have h3 := ih3.2.1 rfl
    unfold Few at h1 h2 h3 ⊢
    rw [sh_node, fln, shs3, fl3]
    show (wd [105, 102] :: (sh k 1 ++ (sh j 10 ++ wd [101, 108, 115, 101] :: sh i 10))).length + 1 ≤ _
    rw [List.length_cons, List.length_append, List.length_append, List.length_cons]; omega
  | @while_ k j h h2 ih ih2 =>
    refine ⟨fun h => (by cases h), fun h => (by cases h), fun _ => ?_⟩
    have h1 := ih.1 rfl 1 (by omega)
    have h2 := ih2.2.1 rfl
    unfold Few at h1 h2 ⊢
    rw [sh_node, fln, shs2, fl2]
    show (wd [119, 104, 105, 108, 101] :: (sh k 1 ++ sh j 10)).length + 1 ≤ _
    rw [List.length_cons, List.length_append]; omega
  | @do_ op k ho h ih =>
    refine ⟨fun h => (by cases h), fun h => (by cases h), fun _ => ?_⟩
    have h1 := ih.1 rfl 1 (by omega)
    unfold Few at h1 ⊢
    rw [sh_node, fln, shs1, fl1]
    have : op = 8 ∨ op = 9 ∨ op = 10 ∨ op = 11 := by omega
    rcases this with rfl | rfl | rfl | rfl
    · show (wd [114, 101, 116, 117, 114, 110] :: sh k 1).length + 1 ≤ _
      rw [List.length_cons]; omega
    · show (wd [102, 97, 105, 108] :: sh k 1).length + 1 ≤ _
      rw [List.length_cons]; omega
    · show (wd [115, 108, 101, 101, 112] :: sh k 1).length + 1 ≤ _
      rw [List.length_cons]; omega
    · show (wd [100, 111] :: sh k 1).length + 1 ≤ _
      rw [List.length_cons]; omega
def Kind (T : Tr) : Prop := opOf T = 1 ∨ exprB (opOf T) = true
theorem few_shown {T : Tr} {may : Nat → Bool} (h : T.ok may) (hk : Kind T) : (shown T).length + 1 ≤ 8 * T.flat.length + 8 := by
  have hg := rt_of T may h
  obtain ⟨x, ks⟩ := T
  unfold shown
  rcases hk with hk | hk
  · have hk1 : x.op = 1 := hk
    dsimp only
    rw [if_pos hk1]
    obtain ⟨s, ss, b, h1, h2, h3, h4⟩ := hg.2.2.2.2 hk
    rw [h4, sh_node]
    show (flowS _ _).length + 1 ≤ _
    unfold flowS
    have e1 : shs (ss.map nameT ++ [b]) = shs (ss.map nameT) ++ [sh b] := by rw [shs_map, shs_map, List.map_append]; rfl
    have e2 : nthS (shs (ss.map nameT) ++ [sh b]) ((shs (ss.map nameT) ++ [sh b]).length - 1) 10 = sh b 10 := by
      unfold nthS
      rw [List.length_append, List.length_singleton, Nat.add_sub_cancel, List.getElem?_append_right (Nat.le_refl _), Nat.sub_self]
      rfl
    rw [e1, List.dropLast_concat, e2, fln, flats_append, List.length_append, fl1]
    have hn : ∀ k ∈ ss.map nameT, Few 12 k := by
      intro k hk
      obtain ⟨s, _, rfl⟩ := List.mem_map.1 hk
      unfold Few nameT
      rw [sh_node]
      show 1 + 1 ≤ _
      rw [fln]; omega
    have h5 := few_commas hn
    have h6 := (few_any h3).2.1 rfl
    unfold Few at h6
    simp only [List.length_cons, List.length_append]
    omega
  · have hk1 : x.op ≠ 1 := by
      intro he
      have hk2 : exprB x.op = true := hk
      rw [he] at hk2
      cases hk2
    dsimp only
    rw [if_neg hk1]
    have h6 := (few_any (hg.1 hk)).1 rfl 1 (by omega)
    unfold Few at h6
    omega
end Go.Proofs.YtbcadlocldplfaaDoor
namespace Go.Proofs.YtbcadlocldplfaaDoor
set_option maxRecDepth 100000
open Go.RowKit T8
def ShowR (l : List Tw) (o : List Tz) (er : Int) : Prop :=
  ((chk l).2 ≠ 0 ∧ er = (chk l).2 ∧ o = []) ∨ ∃ T, Right l T ∧ (chk l).2 = 0 ∧ ((Kind T ∧ er = 0 ∧ o = shown T) ∨ (¬ Kind T ∧ er = 3 ∧ o = []))
theorem right_one {l : List Tw} {T U : Tr} (h : Right l T) (h2 : Right l U) : T = U :=
  (wf_same T U [] [] (wf_ok T _ h.1) (wf_ok U _ h2.1) (by rw [List.append_nil, List.append_nil, h.2, h2.2])).1
theorem ShowR.one {l : List Tw} {o o2 : List Tz} {er er2 : Int} (h : ShowR l o er) (h2 : ShowR l o2 er2) : o = o2 ∧ er = er2 := by
  rcases h with ⟨a1, a2, a3⟩ | ⟨T, a1, a2, a3⟩
  · rcases h2 with ⟨b1, b2, b3⟩ | ⟨U, b1, b2, b3⟩
    · exact ⟨a3.trans b3.symm, a2.trans b2.symm⟩
    · exact absurd b2 a1
  · rcases h2 with ⟨b1, b2, b3⟩ | ⟨U, b1, b2, b3⟩
    · exact absurd a2 b1
    · obtain rfl := right_one a1 b1
      rcases a3 with ⟨c1, c2, c3⟩ | ⟨c1, c2, c3⟩ <;> rcases b3 with ⟨d1, d2, d3⟩ | ⟨d1, d2, d3⟩
      · exact ⟨c3.trans d3.symm, c2.trans d2.symm⟩
      · exact absurd c1 d1
      · exact absurd d1 c1
      · exact ⟨c3.trans d3.symm, c2.trans d2.symm⟩
theorem ShowR.few {l : List Tw} {o : List Tz} {er : Int} (h : ShowR l o er) : o.length ≤ 16400 := by
  rcases h with ⟨_, _, h⟩ | ⟨T, h1, h2, ⟨h3, _, h4⟩ | ⟨_, _, h4⟩⟩
  · rw [h]; exact Nat.zero_le _
  · rw [h4]
    have h5 := few_shown h1.1 h3
    have h6 := (chk_fine.1 h2).1
    rw [h1.2] at h5
    omega
  · rw [h4]; exact Nat.zero_le _
def TokPost (w : World) (l : List Tw) (e : Ending) (w' : World) : Prop :=
  ∃ A n c o er, e = .returned (.tuple #[.slice A n c, .int .i64 er]) ∧ n = o.length ∧ w'.ownsRow w.heap.size 35 4 (.slice A n c) n (rowOf zcell o) ∧ Below w.heap.size w w' ∧ ShowR l o er
theorem head_of {l : List Tw} {T : Tr} (h : T.flat = l) : ∃ x r, l = x :: r ∧ x.op = opOf T := by
  obtain ⟨x, ks⟩ := T
  exact ⟨x, flats ks, by rw [← h, Tr.flat], rfl⟩
theorem wrm_new {w : World} {A : Option Addr} {c : Nat} {l : List Tw} (h : RdL twcell 4 w A l) (hc : l.length ≤ c) (hA : ∀ a, A = some a → a.block < w.heap.size) : WrM (w.alloc (.cells #[.slice A l.length c, .slice none 0 0] 53)) w.heap.size l [] := by
  refine ⟨A, c, none, 0, Blk.new w 53 _, h.chg (T := fun _ => False) (.of_below ((Below.refl _ _).alloc (Nat.le_refl _) _)) (fun _ _ _ h => h.elim), hc, hA, ?_⟩
  exact World.ownsRow_nil _ _ _ _
set_option maxHeartbeats 8000000 in
theorem tokens_any (A : Option Addr) (c : Nat) (l : List Tw) (w : World) (hok : ∀ x ∈ l, TwOk x) (hrd : RdL twcell 4 w A l) (hc : l.length ≤ c) (hlen : l.length ≤ 100000) :
    Calls Tryd.prog 12 #[.slice A l.length c] w (TokPost w l) := by
  have hA : ∀ a, A = some a → l ≠ [] → a.block < w.heap.size := by
    intro a ha hl
    rcases hrd with h | ⟨b, off, h1, h2, _⟩
    · exact absurd h hl
    · rw [ha] at h1
      obtain rfl := Option.some.inj h1
      exact h2
  have HC := Lib.hid (check_any A c l w hok (rdw_of hrd) (by omega) hA)
  have HH := Lib.hid (And.intro hok (And.intro hrd (And.intro hc hA)))
  obtain ⟨R, hR⟩ : ∃ R, R = chk l := ⟨_, rfl⟩
  have HR := Lib.hid hR
  rw [← hR] at HC
  obtain ⟨q, er⟩ := R
  obtain ⟨n, hn⟩ : ∃ n, n = l.length := ⟨_, rfl⟩
  have HN := Lib.hid hn
  rw [← hn] at HC ⊢
  dsimp only at HC
  clear hok hrd hc hA hR hn
  by_cases h0 : er = 0
  · subst h0
    have HF : Hid (∃ T, Right l T ∧ (chk l).2 = 0) := Lib.hid (by
      have h1 : (chk l).2 = 0 := by rw [← HR.out]
      obtain ⟨_, T, h2, _⟩ := chk_fine.1 h1
      exact ⟨T, h2, h1⟩)
    obtain ⟨T, HT⟩ : ∃ T, Hid (Right l T ∧ (chk l).2 = 0) := HF.out
    obtain ⟨x, r, hx, hop⟩ := head_of HT.out.1.2
    have HX := Lib.hid (And.intro hx hop)
    have hnpos : 0 < n := by rw [HN.out, hx]; simp
    have hAb : ∃ b off, A = some ⟨b, off, none⟩ ∧ b < w.heap.size ∧ ∀ i x, l[i]? = some x → ∀ j v, (twcell x)[j]? = some v → w.cell? ⟨b, off + i * 4 + j, none⟩ = some v := by
      rcases HH.out.2.1 with h | h
      · rw [hx] at h; cases h
      · exact h
    obtain ⟨b, off, rfl, hb, hat⟩ := hAb
    have k0 : w.cell? ⟨b, off, none⟩ = some (.int .u8 (x.op : Nat)) := by
      have := hat 0 x (by rw [hx]; rfl) 0 _ rfl
      simpa using this
    have hop9 : x.op < 256 := (HH.out.1 x (by rw [hx]; simp)).1
    obtain ⟨op, kids, iv, tx⟩ := x
    dsimp only at k0 hop9 hop
    have HLE : Hid (Kind T → (shown T).length ≤ 16400) := Lib.hid (fun hk => by
      have h5 := few_shown HT.out.1.1 hk
      have h6 := (chk_fine.1 HT.out.2).1
      rw [HT.out.1.2] at h5
      omega)
    have hlt1 : ∀ w1 : World, Below w.heap.size w w1 → w1.cell? ⟨b, off, none⟩ = some (.int .u8 (op : Nat)) ∧ b < w1.heap.size := fun w1 h1 => ⟨(h1.cell (p := ⟨b, off, none⟩) hb).trans k0, Nat.lt_of_lt_of_le hb h1.size⟩
    have HL1 := Lib.hid hlt1
    have HOP := Lib.hid hop
    clear hx hat k0 hlt1 hop
    by_cases h1 : op = 1
    · subst h1
      go_enter Tryd.func12, Tryd.ntmps12
      go_wp2_with fail
      refine HC.out.mono ?_
      rintro e w1 ⟨rfl, hb1⟩
      have HB1 := Lib.hid hb1
      have k1 := (HL1.out w1 hb1).1
      have hb1' := (HL1.out w1 hb1).2
      have HW : Hid (WrM (w1.alloc (.cells #[.slice (some ⟨b, off, none⟩) n c, .slice none 0 0] 53)) w1.heap.size l []) := Lib.hid (by
        rw [HN.out]
        exact wrm_new (HH.out.2.1.below hb1) HH.out.2.2.1 (fun a ha => by obtain rfl := Option.some.inj ha; exact hb1'))
      have HWB : Hid (Below w.heap.size w1 (w1.alloc (.cells #[.slice (some ⟨b, off, none⟩) n c, .slice none 0 0] 53))) := Lib.hid (((Below.refl _ _).alloc (Nat.le_refl _) _).mono hb1.size)
      clear hb1
      go_wp2_with fail
      obtain ⟨s, ss, bt, g1, g2, g3, g4⟩ := (rt_of T _ HT.out.1.1).2.2.2.2 HOP.out.symm
      have HG := Lib.hid (And.intro g1 (And.intro g2 (And.intro g3 g4)))
      have hsz : bt.flat.length ≤ 100000 ∧ ss.length ≤ 100000 := by
        have h5 := HT.out.1.2
        rw [g4] at h5
        have h6 : l.length ≤ 100000 := hlen
        rw [← h5, Tr.flat, List.length_cons, flats_append, List.length_append] at h6
        have h7 : bt.flat.length = (flats [bt]).length := by simp [flats]
        have h8 : ∀ ks : List Tr, ks.length ≤ (flats ks).length := by
          intro ks
          induction ks with
          | nil => exact Nat.le_refl _
          | cons k ks ih => have := flat_pos k; rw [flats, List.length_append, List.length_cons]; omega
        have h9 := h8 (ss.map nameT)
        rw [List.length_map] at h9
        omega
      have HSH : Hid (sh (.node ⟨1, ((ss.length + 1 : Nat) : Int), 0, s⟩ (ss.map nameT ++ [bt])) 13 = shown T) := Lib.hid (by rw [g4]; rfl)
      clear g1 g2 g3 g4
      generalize w1.alloc _ = wa at *
      have hgs : w1.heap.size < wa.heap.size := HW.out.lt
      refine (wflow_any 100000 (Nat.le_refl _) s ss bt ⟨HG.out.2.2.1, hsz.1⟩ hsz.2 w1.heap.size [] [] wa (by rw [← HG.out.2.2.2, HT.out.1.2, List.append_nil]; exact HW.out) (by rw [HSH.out]; have := HLE.out (.inl HOP.out.symm); simp only [List.length_nil]; omega)).mono ?_
      rintro e w2 ⟨rfl, hk2, hm2⟩
      obtain ⟨Ao, co, k3, hown, _⟩ := hm2.out_
      have HO := Lib.hid (And.intro hown (And.intro hk2 (And.intro hm2 HSH.out)))
      clear hk2 hm2 hown
      obtain ⟨m, hm⟩ : ∃ m, m = ([] ++ sh (.node ⟨1, ((ss.length + 1 : Nat) : Int), 0, s⟩ (ss.map nameT ++ [bt])) 13).length := ⟨_, rfl⟩
      rw [← hm] at k3 HO
      have HM := Lib.hid hm
      clear hm
      go_wp2_with fail
      go_ret2
      refine ⟨Ao, m, co, _, 0, rfl, HM.out, own_mono HO.out.1 (by have := HB1.out.size; omega), ?_, .inr ⟨T, HT.out.1, HT.out.2, .inl ⟨.inl HOP.out.symm, rfl, by rw [List.nil_append]; exact HO.out.2.2.2⟩⟩⟩
      exact (HB1.out.trans (HWB.out)).trans (((HO.out.2.1).below (by omega)).mono HB1.out.size)
    · have hne : ((op : Int) == 1) = false := by rw [beq_eq_false_iff_ne]; omega
      have HE := Lib.hid (fun W => expression_any op W hop9)
      cases hx2 : exprB op with
      | true =>
        rw [hx2] at HE
        have HKI : Hid (Kind T) := Lib.hid (.inr (by rw [← HOP.out]; exact hx2))
        have HR0 : Hid (Rt 0 T) := Lib.hid ((rt_of T _ HT.out.1.1).1 (by rw [← HOP.out]; exact hx2))
        have HSH : Hid (sh T 1 = shown T) := Lib.hid (by
          obtain ⟨y, ks⟩ := T
          unfold shown
          dsimp only
          rw [if_neg (by intro h; have h2 : op = y.op := HOP.out; omega)])
        have hsz : T.flat.length ≤ 100000 := by rw [HT.out.1.2]; exact hlen
        clear hx2
        go_enter Tryd.func12, Tryd.ntmps12
        go_wp2_with fail
        refine HC.out.mono ?_
        rintro e w1 ⟨rfl, hb1⟩
        have HB1 := Lib.hid hb1
        have k1 := (HL1.out w1 hb1).1
        have hb1' := (HL1.out w1 hb1).2
        have HW : Hid (WrM (w1.alloc (.cells #[.slice (some ⟨b, off, none⟩) n c, .slice none 0 0] 53)) w1.heap.size l []) := Lib.hid (by
          rw [HN.out]
          exact wrm_new (HH.out.2.1.below hb1) HH.out.2.2.1 (fun a ha => by obtain rfl := Option.some.inj ha; exact hb1'))
        have HWB : Hid (Below w.heap.size w1 (w1.alloc (.cells #[.slice (some ⟨b, off, none⟩) n c, .slice none 0 0] 53))) := Lib.hid (((Below.refl _ _).alloc (Nat.le_refl _) _).mono hb1.size)
        clear hb1
        go_wp2_with fail
        generalize w1.alloc _ = wa at *
        have hgs : w1.heap.size < wa.heap.size := HW.out.lt
        refine (HE.out wa).mono ?_
        rintro e w1' ⟨rfl, hw⟩
        rw [hw]
        clear hw w1'
        go_wp2_with fail
        refine ((write_ok 100000 (Nat.le_refl _)).1 T HR0.out hsz w1.heap.size 1 [] [] wa (by omega) (by rw [HT.out.1.2, List.append_nil]; exact HW.out) (by rw [HSH.out]; have := HLE.out HKI.out; simp only [List.length_nil]; omega)).mono ?_
        rintro e w2 ⟨rfl, hk2, hm2⟩
        obtain ⟨Ao, co, k3, hown, _⟩ := hm2.out_
        have HO := Lib.hid (And.intro hown (And.intro hk2 (And.intro hm2 HSH.out)))
        clear hk2 hm2 hown
        obtain ⟨m, hm⟩ : ∃ m, m = ([] ++ sh T 1).length := ⟨_, rfl⟩
        rw [← hm] at k3 HO
        have HM := Lib.hid hm
        clear hm
        go_wp2_with fail
        go_ret2
        refine ⟨Ao, m, co, _, 0, rfl, HM.out, own_mono HO.out.1 (by have := HB1.out.size; omega), ?_, .inr ⟨T, HT.out.1, HT.out.2, .inl ⟨HKI.out, rfl, by rw [List.nil_append]; exact HO.out.2.2.2⟩⟩⟩
        exact (HB1.out.trans (HWB.out)).trans (((HO.out.2.1).below (by omega)).mono HB1.out.size)
      | false =>
        rw [hx2] at HE
        have HKI : Hid (¬ Kind T) := Lib.hid (by
          rintro (h | h)
          · have := HOP.out; omega
          · rw [← HOP.out, hx2] at h; cases h)
        clear hx2
        go_enter Tryd.func12, Tryd.ntmps12
        go_wp2_with fail
        refine HC.out.mono ?_
        rintro e w1 ⟨rfl, hb1⟩
        have HB1 := Lib.hid hb1
        have k1 := (HL1.out w1 hb1).1
        have hb1' := (HL1.out w1 hb1).2
        have HWB : Hid (Below w.heap.size w1 (w1.alloc (.cells #[.slice (some ⟨b, off, none⟩) n c, .slice none 0 0] 53))) := Lib.hid (((Below.refl _ _).alloc (Nat.le_refl _) _).mono hb1.size)
        clear hb1
        go_wp2_with fail
        generalize w1.alloc _ = wa at *
        refine (HE.out wa).mono ?_
        rintro e w1' ⟨rfl, hw⟩
        rw [hw]
        clear hw w1'
        go_wp2_with fail
        go_ret2
        exact ⟨none, 0, 0, [], 3, rfl, rfl, World.ownsRow_nil _ _ _ _, HB1.out.trans HWB.out, .inr ⟨T, HT.out.1, HT.out.2, .inr ⟨HKI.out, rfl, rfl⟩⟩⟩
  · have hne : (er != 0) = true := by simpa using h0
    have HZ : Hid ((chk l).2 ≠ 0 ∧ er = (chk l).2) := Lib.hid (by rw [← HR.out]; exact ⟨h0, rfl⟩)
    clear h0
    go_enter Tryd.func12, Tryd.ntmps12
    go_wp2_with fail
    refine HC.out.mono ?_
    rintro e w1 ⟨rfl, hb1⟩
    have HB1 := Lib.hid hb1
    clear hb1
    go_wp2_with fail
    go_ret2
    exact ⟨none, 0, 0, [], er, rfl, rfl, World.ownsRow_nil _ _ _ _, HB1.out, .inl ⟨HZ.out.1, HZ.out.2, rfl⟩⟩
end Go.Proofs.YtbcadlocldplfaaDoor
namespace Go.Proofs.YtbcadlocldplfaaDoor
open T8
def cv (x : Tz) : T7.Tz := ⟨x.kind, x.text, x.int, (x.at_ : Int)⟩
def Gd1 (x : Tz) : Prop := T7.rightB (cv x) = true ∧ x.int ≤ 9223372036854775807
def GL (l : List Tz) : Prop := ∀ x ∈ l, Gd1 x
theorem GL.nil : GL [] := fun x hx => by cases hx
theorem GL.cons {x : Tz} {l : List Tz} (h : Gd1 x) (hl : GL l) : GL (x :: l) := fun y hy => by
  rcases List.mem_cons.1 hy with rfl | hy
  · exact h
  · exact hl y hy
theorem GL.app {a b : List Tz} (h : GL a) (h2 : GL b) : GL (a ++ b) := fun y hy => (List.mem_append.1 hy).elim (h y) (h2 y)
theorem gd_wd {s : List UInt8} (h : T7.wordOk s = true) : Gd1 (wd s) := by
  refine ⟨?_, show (0 : Int) ≤ _ by decide⟩
  show (T7.wordOk s && decide ((0 : Int) = 0)) = true
  rw [h]; rfl
theorem gd_wt {s : ByteArray} (h : T7.wordOk s.data.toList = true) : Gd1 (wt s) := by
  refine ⟨?_, show (0 : Int) ≤ _ by decide⟩
  show (T7.wordOk s.data.toList && decide ((0 : Int) = 0)) = true
  rw [h]; rfl
theorem gd_sg {s : List UInt8} (h : s ∈ T7.sgn17) : Gd1 (sg s) := by
  refine ⟨?_, show (0 : Int) ≤ _ by decide⟩
  show (decide (s ∈ T7.sgn17) && decide ((0 : Int) = 0)) = true
  rw [decide_eq_true h]; rfl
theorem gd_mid (op : Nat) : Gd1 (midT op) := by
  unfold midT
  repeat' split
  all_goals first | exact gd_wd (by decide) | exact gd_sg (by decide)
theorem gd_one (op : Nat) : Gd1 (oneT op) := by
  unfold oneT
  repeat' split
  all_goals exact gd_wd (by decide)
def NiceT (x : Tw) : Prop := (x.op = 1 ∨ x.op = 2 ∨ x.op = 4 ∨ x.op = 5 ∨ x.op = 26 ∨ x.op = 50 ∨ x.op = 51 ∨ x.op = 56 → T7.wordOk x.text.data.toList = true) ∧ (x.op = 23 → 0 ≤ x.int ∧ x.int ≤ 9223372036854775807) ∧ (x.op = 24 → x.text.data.toList.length ≤ 4095)
theorem word_of {s : ByteArray} (h : nameB s.toList = true) : T7.wordOk s.data.toList = true := by
  rw [ByteArray.toList_eq] at h
  generalize s.data.toList = l at h
  unfold nameB at h
  rw [Bool.and_eq_true, Bool.and_eq_true] at h
  obtain ⟨⟨h1, h2⟩, h3⟩ := h
  cases l with
  | nil => cases h2
  | cons c r =>
    show (decide ((c :: r).length ≤ 24) && lowB c && (c :: r).all innB) = true
    rw [h1, Bool.true_and, Bool.and_eq_true]
    have h2' : decide (97 ≤ c.toNat ∧ c.toNat ≤ 122) = true := h2
    refine ⟨?_, ?_⟩
    · unfold lowB
      simpa using h2'
    · rw [List.all_eq_true] at h3 ⊢
      intro d hd
      have h4 := h3 d hd
      unfold inC at h4
      unfold innB lowB digB
      simp only [decide_eq_true_eq] at h4
      simp only [Bool.or_eq_true, Bool.and_eq_true, decide_eq_true_eq]
      omega
theorem nice_of {x : Tw} {may : Nat → Bool} (h : fineB x may = true) (hi : x.int ≤ 9223372036854775807) : NiceT x := by
  unfold fineB at h
  cases hf : formOf x.op with
  | none => rw [hf] at h; cases h
  | some f =>
    rw [hf] at h
    simp only [Bool.and_eq_true, decide_eq_true_eq] at h
    refine ⟨fun ho => ?_, fun ho => ⟨h.2.2.2.2.2, hi⟩, fun ho => ?_⟩
    · have hf2 : f.txt = 78 := by
        rcases ho with ho | ho | ho | ho | ho | ho | ho | ho <;> (rw [ho] at hf; injection hf with hf; rw [← hf])
      have h1 : txtB f.txt x.text = true := h.2.1
      rw [hf2] at h1
      have h2 : (nameB x.text.toList && !kw x.text.toList) = true := h1
      rw [Bool.and_eq_true] at h2
      exact word_of h2.1
    · have hf2 : f.txt = 84 := by rw [ho] at hf; injection hf with hf; rw [← hf]
      have h1 : txtB f.txt x.text = true := h.2.1
      rw [hf2] at h1
      have h2 : decide (x.text.size ≤ 4095) = true := h1
      exact of_decide_eq_true h2
mutual
theorem flat_fine : ∀ (t : Tr) (may : Nat → Bool), t.ok may → ∀ x ∈ t.flat, ∃ m, fineB x m = true
  | .node y ks, may, h, x, hx => by
    rw [Tr.ok] at h
    rw [Tr.flat] at hx
    rcases List.mem_cons.1 hx with rfl | hx
    · exact ⟨may, h.1⟩
    · exact flats_fine ks y 0 h.2.2 x hx
theorem flats_fine : ∀ (ks : List Tr) (y : Tw) (i : Nat), oks y i ks → ∀ x ∈ flats ks, ∃ m, fineB x m = true
  | [], _, _, _, x, hx => by rw [flats] at hx; cases hx
  | k :: ks, y, i, h, x, hx => by
    rw [oks] at h
    rw [flats] at hx
    rcases List.mem_append.1 hx with hx | hx
    · exact flat_fine k _ h.1 x hx
    · exact flats_fine ks y (i + 1) h.2 x hx
end
/-! What is shown of good twigs. -/
theorem gl_br {x : Tw} {ks : List Tr} (h : GL (bareS x (shs ks))) {a : Nat} (ha : a ≤ 9) : GL (sh (.node x ks) a) := by
  rw [sh_expr x ks ha]
  split
  · exact .cons (gd_sg (by decide)) (.app h (.cons (gd_sg (by decide)) .nil))
  · exact h
theorem gl_commas {m : Nat} : ∀ {ks : List Tr}, (∀ k ∈ ks, GL (sh k m)) → GL (commas m (shs ks))
  | [], _ => by rw [shs, commas]; exact .nil
  | [k], h => by rw [shs, shs, commas]; exact h k (by simp)
  | k :: j :: ks, h => by
    have h2 := gl_commas (ks := j :: ks) (m := m) (fun i hi => h i (by simp [hi]))
    rw [show shs (k :: j :: ks) = sh k :: sh j :: shs ks from by rw [shs, shs], commas]
    rw [show shs (j :: ks) = sh j :: shs ks from by rw [shs]] at h2
    exact .app (h k (by simp)) (.cons (gd_sg (by decide)) h2)
theorem gl_all {m : Nat} : ∀ {ks : List Tr}, (∀ k ∈ ks, GL (sh k m)) → GL (allS m (shs ks))
  | [], _ => by rw [shs]; exact .nil
  | k :: ks, h => by
    have h2 := gl_all (ks := ks) (m := m) (fun i hi => h i (by simp [hi]))
    unfold allS at h2 ⊢
    rw [shs, List.flatMap_cons]
    exact .app (h k (by simp)) h2
theorem gl_lis {o e : List UInt8} (ho : o ∈ T7.sgn17) (he : e ∈ T7.sgn17) {ks : List Tr} (h : ∀ k ∈ ks, GL (sh k 1)) : GL (lisS o (shs ks) e) :=
  .cons (gd_sg ho) (.app (gl_commas h) (.cons (gd_sg he) .nil))
def Nices (t : Tr) : Prop := ∀ x ∈ t.flat, NiceT x
theorem Nices.kid {x : Tw} {ks : List Tr} (h : Nices (.node x ks)) {k : Tr} (hk : k ∈ ks) : Nices k := fun y hy => h y (by rw [Tr.flat]; exact List.mem_cons_of_mem _ (flat_mem hk y hy))
theorem Nices.top {x : Tw} {ks : List Tr} (h : Nices (.node x ks)) : NiceT x := h x (by rw [Tr.flat]; simp)
theorem gl_any {kd : Nat} {t : Tr} (h : Rt kd t) : Nices t → (kd = 0 → ∀ a, a ≤ 9 → GL (sh t a)) ∧ (kd = 1 → GL (sh t 10)) ∧ (kd = 2 → GL (sh t 11)) := by
  induction h with
  | @word op ho =>
    refine fun _ => ⟨fun _ a ha => gl_br ?_ ha, fun h => (by cases h), fun h => (by cases h)⟩
    rcases ho with rfl | rfl | rfl | rfl <;> exact .cons (gd_wd (by decide)) .nil
  | int i =>
    intro hn
    have h2 := hn.top.2.1 rfl
    refine ⟨fun _ a ha => gl_br ?_ ha, fun h => (by cases h), fun h => (by cases h)⟩
    refine .cons ⟨?_, h2.2⟩ .nil
    show (decide (([] : List UInt8) = []) && decide ((0 : Int) ≤ i)) = true
    rw [decide_eq_true rfl, decide_eq_true h2.1]; rfl
  | text s =>
    intro hn
    have h2 := hn.top.2.2 rfl
    refine ⟨fun _ a ha => gl_br ?_ ha, fun h => (by cases h), fun h => (by cases h)⟩
    refine .cons ⟨?_, show (0 : Int) ≤ _ by decide⟩ .nil
    show (decide (s.data.toList.length ≤ 4095) && decide ((0 : Int) = 0)) = true
    rw [decide_eq_true h2]; rfl
  | name hs =>
    refine fun hn => ⟨fun _ a ha => gl_br ?_ ha, fun h => (by cases h), fun h => (by cases h)⟩
    exact .cons (gd_wt (hn.top.1 (by simp))) .nil
  | take hs =>
    refine fun hn => ⟨fun _ a ha => gl_br ?_ ha, fun h => (by cases h), fun h => (by cases h)⟩
    exact .cons (gd_wd (s := [116, 97, 107, 101]) (by decide)) (.cons (gd_wt (hn.top.1 (by simp))) .nil)
  | @list ks h ih =>
    refine fun hn => ⟨fun _ a ha => gl_br ?_ ha, fun h => (by cases h), fun h => (by cases h)⟩
    exact gl_lis (by decide) (by decide) fun k hk => (ih k hk (hn.kid hk)).1 rfl 1 (by omega)
  | @call op s ks ho hs h ih =>
    refine fun hn => ⟨fun _ a ha => gl_br ?_ ha, fun h => (by cases h), fun h => (by cases h)⟩
    have h1 := gl_lis (o := [40]) (e := [41]) (by decide) (by decide) fun k hk => (ih k hk (hn.kid hk)).1 rfl 1 (by omega)
    have h2 := hn.top.1
    rcases ho with rfl | rfl
    · exact .cons (gd_wd (s := [99, 97, 108, 108]) (by decide)) (.cons (gd_wt (h2 (by simp))) h1)
    · exact .cons (gd_wd (s := [99, 104, 105, 108, 100]) (by decide)) (.cons (gd_wt (h2 (by simp))) h1)
  | @one op k ho h ih =>
    refine fun hn => ⟨fun _ a ha => gl_br ?_ ha, fun h => (by cases h), fun h => (by cases h)⟩
    have h1 := gl_lis (o := [40]) (e := [41]) (by decide) (by decide) (mem_one ((ih (hn.kid (by simp))).1 rfl 1 (by omega)))
    have e : bareS ⟨op, 1, 0, bs []⟩ (shs [k]) = oneT op :: lisS [40] (shs [k]) [41] := by rcases ho with rfl | rfl | rfl | rfl | rfl <;> rfl
    rw [e]
    exact .cons (gd_one op) h1
  | @num k j h h2 ih ih2 =>
    refine fun hn => ⟨fun _ a ha => gl_br ?_ ha, fun h => (by cases h), fun h => (by cases h)⟩
    exact .cons (gd_one 41) (gl_lis (o := [40]) (e := [41]) (by decide) (by decide) (mem_duo ((ih (hn.kid (by simp))).1 rfl 1 (by omega)) ((ih2 (hn.kid (by simp))).1 rfl 1 (by omega))))
  | @fork k h ih =>
    refine fun hn => ⟨fun _ a ha => gl_br ?_ ha, fun h => (by cases h), fun h => (by cases h)⟩
    rw [shs1]
    exact .cons (gd_wd (s := [102, 111, 114, 107]) (by decide)) ((ih (hn.kid (by simp))).2.1 rfl)
  | @not k h ih =>
    refine fun hn => ⟨fun _ a ha => gl_br ?_ ha, fun h => (by cases h), fun h => (by cases h)⟩
    rw [shs1]
    exact .cons (gd_wd (s := [110, 111, 116]) (by decide)) ((ih (hn.kid (by simp))).1 rfl 3 (by omega))
  | @pre op k ho h ih =>
    refine fun hn => ⟨fun _ a ha => gl_br ?_ ha, fun h => (by cases h), fun h => (by cases h)⟩
    have h1 := (ih (hn.kid (by simp))).1 rfl 7 (by omega)
    rw [shs1]
    rcases ho with rfl | rfl | rfl
    · exact .cons (gd_sg (s := [45]) (by decide)) h1
    · exact .cons (gd_wd (s := [97, 119, 97, 105, 116]) (by decide)) h1
    · exact .cons (gd_wd (s := [115, 101, 116, 116, 108, 101]) (by decide)) h1
  | @at_ k j h h2 ih ih2 =>
    refine fun hn => ⟨fun _ a ha => gl_br ?_ ha, fun h => (by cases h), fun h => (by cases h)⟩
    rw [shs2]
    exact .app ((ih (hn.kid (by simp))).1 rfl 8 (by omega)) (.cons (gd_sg (s := [91]) (by decide)) (.app ((ih2 (hn.kid (by simp))).1 rfl 1 (by omega)) (.cons (gd_sg (s := [93]) (by decide)) .nil)))
  | @cmp op k j ho h h2 ih ih2 =>
    refine fun hn => ⟨fun _ a ha => gl_br ?_ ha, fun h => (by cases h), fun h => (by cases h)⟩
    rw [shs2]
    have e : bareS ⟨op, 2, 0, bs []⟩ [sh k, sh j] = sh k 5 ++ midT op :: sh j 5 := by
      have : op = 32 ∨ op = 33 ∨ op = 34 ∨ op = 35 := by omega
      rcases this with rfl | rfl | rfl | rfl <;> rfl
    rw [e]
    exact .app ((ih (hn.kid (by simp))).1 rfl 5 (by omega)) (.cons (gd_mid op) ((ih2 (hn.kid (by simp))).1 rfl 5 (by omega)))
  | @bin op k j ho h h2 ih ih2 =>
    refine fun hn => ⟨fun _ a ha => gl_br ?_ ha, fun h => (by cases h), fun h => (by cases h)⟩
    have hc : op = 30 ∨ op = 31 ∨ op = 36 ∨ op = 37 ∨ op = 38 ∨ op = 39 ∨ op = 40 := by omega
    have hw : width op ≤ 6 := by rcases hc with rfl | rfl | rfl | rfl | rfl | rfl | rfl <;> decide
    rw [shs2]
    have e : bareS ⟨op, 2, 0, bs []⟩ [sh k, sh j] = sh k (width op) ++ midT op :: sh j (width op + 1) := by rcases hc with rfl | rfl | rfl | rfl | rfl | rfl | rfl <;> rfl
    rw [e]
    exact .app ((ih (hn.kid (by simp))).1 rfl _ (by omega)) (.cons (gd_mid op) ((ih2 (hn.kid (by simp))).1 rfl _ (by omega)))
  | @block ks h ih =>
    refine fun hn => ⟨fun h => (by cases h), fun _ => ?_, fun h => (by cases h)⟩
    rw [sh_node]
    exact .cons (gd_sg (s := [123]) (by decide)) (.app (gl_all (m := 11) fun k hk => (ih k hk (hn.kid hk)).2.2 rfl) (.cons (gd_sg (s := [125]) (by decide)) .nil))
  | @put op s k ho hs h ih =>
    refine fun hn => ⟨fun h => (by cases h), fun h => (by cases h), fun _ => ?_⟩
    have h1 := (ih (hn.kid (by simp))).1 rfl 1 (by omega)
    have h2 := hn.top.1
    rw [sh_node, shs1]
    rcases ho with rfl | rfl
    · exact .cons (gd_wd (s := [108, 101, 116]) (by decide)) (.cons (gd_wt (h2 (by simp))) (.cons (gd_sg (s := [61]) (by decide)) h1))
    · exact .cons (gd_wt (h2 (by simp))) (.cons (gd_sg (s := [61]) (by decide)) h1)
  | @if2 k j h h2 ih ih2 =>
    refine fun hn => ⟨fun h => (by cases h), fun h => (by cases h), fun _ => ?_⟩
    rw [sh_node, shs2]
    exact .cons (gd_wd (s := [105, 102]) (by decide)) (.app ((ih (hn.kid (by simp))).1 rfl 1 (by omega)) (.app ((ih2 (hn.kid (by simp))).2.1 rfl) .nil))
  | @if3 k j i h h2 h3 ih ih2 ih3 =>
    refine fun hn => ⟨fun h => (by cases h), fun h => (by cases h), fun _ => ?_⟩
    rw [sh_node, shs3]
    exact .cons (gd_wd (s := [105, 102]) (by decide)) (.app ((ih (hn.kid (by simp))).1 rfl 1 (by omega)) (.app ((ih2 (hn.kid (by simp))).2.1 rfl) (.cons (gd_wd (s := [101, 108, 115, 101]) (by decide)) ((ih3 (hn.kid (by simp))).2.1 rfl))))
  | @while_ k j h h2 ih ih2 =>
    refine fun hn => ⟨fun h => (by cases h), fun h => (by cases h), fun _ => ?_⟩
    rw [sh_node, shs2]
    exact .cons (gd_wd (s := [119, 104, 105, 108, 101]) (by decide)) (.app ((ih (hn.kid (by simp))).1 rfl 1 (by omega)) ((ih2 (hn.kid (by simp))).2.1 rfl))
  | @do_ op k ho h ih =>
    refine fun hn => ⟨fun h => (by cases h), fun h => (by cases h), fun _ => ?_⟩
    have h1 := (ih (hn.kid (by simp))).1 rfl 1 (by omega)
    rw [sh_node, shs1]
    have : op = 8 ∨ op = 9 ∨ op = 10 ∨ op = 11 := by omega
    rcases this with rfl | rfl | rfl | rfl
    · exact .cons (gd_wd (s := [114, 101, 116, 117, 114, 110]) (by decide)) h1
    · exact .cons (gd_wd (s := [102, 97, 105, 108]) (by decide)) h1
    · exact .cons (gd_wd (s := [115, 108, 101, 101, 112]) (by decide)) h1
    · exact .cons (gd_wd (s := [100, 111]) (by decide)) h1
theorem gl_shown {T : Tr} {may : Nat → Bool} (h : T.ok may) (hk : Kind T) (hi : ∀ x ∈ T.flat, x.int ≤ 9223372036854775807) : GL (shown T) := by
  have hn : Nices T := fun x hx => by
    obtain ⟨m, hm⟩ := flat_fine T may h x hx
    exact nice_of hm (hi x hx)
  have hg := rt_of T may h
  obtain ⟨x, ks⟩ := T
  unfold shown
  rcases hk with hk | hk
  · have hk1 : x.op = 1 := hk
    dsimp only
    rw [if_pos hk1]
    obtain ⟨s, ss, b, h1, h2, h3, h4⟩ := hg.2.2.2.2 hk
    rw [h4] at hn ⊢
    rw [sh_node]
    show GL (flowS _ _)
    unfold flowS
    have e1 : shs (ss.map nameT ++ [b]) = shs (ss.map nameT) ++ [sh b] := by rw [shs_map, shs_map, List.map_append]; rfl
    have e2 : nthS (shs (ss.map nameT) ++ [sh b]) ((shs (ss.map nameT) ++ [sh b]).length - 1) 10 = sh b 10 := by
      unfold nthS
      rw [List.length_append, List.length_singleton, Nat.add_sub_cancel, List.getElem?_append_right (Nat.le_refl _), Nat.sub_self]
      rfl
    rw [e1, List.dropLast_concat, e2]
    refine .cons (gd_wd (by decide)) (.cons (gd_wt (hn.top.1 (by simp))) (.cons (gd_sg (by decide)) (.app (gl_commas fun k hk => ?_) (.cons (gd_sg (by decide)) ((gl_any h3 (hn.kid (by simp))).2.1 rfl)))))
    have hk2 := hn.kid (k := k) (by simp [List.mem_append, hk])
    obtain ⟨s2, _, rfl⟩ := List.mem_map.1 hk
    have e3 : sh (nameT s2) 12 = [wt s2] := by unfold nameT; rw [sh_node]; rfl
    rw [e3]
    exact .cons (gd_wt ((Nices.top hk2).1 (by simp))) .nil
  · have hk1 : x.op ≠ 1 := by
      intro he
      have hk2 : exprB x.op = true := hk
      rw [he] at hk2
      cases hk2
    dsimp only
    rw [if_neg hk1]
    exact (gl_any (hg.1 hk) hn).1 rfl 1 (by omega)
end Go.Proofs.YtbcadlocldplfaaDoor
namespace Go.Proofs.YtbcadlocldplfaaDoor
set_option maxRecDepth 100000
open Go.RowKit T8
abbrev Tab (w : World) : Prop := Lib.TabIs Tryd.prog w "internal/strconv.uint64pow10" .u64 Lib.pow10Tab
theorem ite_or {α : Type} {c : Prop} [Decidable c] {a b x : α} (h : (if c then a else b) = x) : (c ∧ a = x) ∨ (¬ c ∧ b = x) := by
  by_cases hc : c
  · rw [if_pos hc] at h
    exact .inl ⟨hc, h⟩
  · rw [if_neg hc] at h
    exact .inr ⟨hc, h⟩
theorem gd_ok {x : Tz} (h : Gd1 x) : T7.TzOk (cv x) := by
  obtain ⟨k, tx, iv, p⟩ := x
  obtain ⟨h1, h2⟩ := h
  have h2' : iv ≤ 9223372036854775807 := h2
  unfold T7.rightB at h1
  have hs : tx.size = tx.data.toList.length := rfl
  have hb : k < 256 ∧ tx.size ≤ 9223372036854775807 ∧ 0 ≤ iv := by
    change (if k = 1 then T7.wordOk tx.data.toList && decide (iv = 0) else if k = 2 then decide (tx.data.toList = []) && decide (0 ≤ iv) else if k = 3 then decide (tx.data.toList.length ≤ 4095) && decide (iv = 0) else if k = 4 then decide (tx.data.toList ∈ T7.sgn17) && decide (iv = 0) else false) = true at h1
    rw [hs]
    generalize tx.data.toList = l at *
    rcases ite_or h1 with ⟨hk, h1⟩ | ⟨_, h1⟩
    · rw [Bool.and_eq_true, decide_eq_true_eq] at h1
      have h3 := h1.1
      unfold T7.wordOk at h3
      cases l with
      | nil => cases h3
      | cons c r =>
        simp only [Bool.and_eq_true, decide_eq_true_eq] at h3
        omega
    rcases ite_or h1 with ⟨hk, h1⟩ | ⟨_, h1⟩
    · simp only [Bool.and_eq_true, decide_eq_true_eq] at h1
      rw [h1.1]
      exact ⟨by omega, by simp, h1.2⟩
    rcases ite_or h1 with ⟨hk, h1⟩ | ⟨_, h1⟩
    · simp only [Bool.and_eq_true, decide_eq_true_eq] at h1
      omega
    rcases ite_or h1 with ⟨hk, h1⟩ | ⟨_, h1⟩
    · simp only [Bool.and_eq_true, decide_eq_true_eq] at h1
      have key : ∀ s ∈ T7.sgn17, s.length ≤ 2 := by decide
      have := key l h1.1
      omega
    · cases h1
  exact ⟨hb.1, hb.2.1, by show -9223372036854775808 ≤ iv; omega, h2'⟩
theorem gl_tz {o : List Tz} (h : GL o) : ∀ x ∈ o.map cv, T7.TzOk x := fun x hx => by
  obtain ⟨y, hy, rfl⟩ := List.mem_map.1 hx
  exact gd_ok (h y hy)
theorem rowOf_cv (o : List Tz) : rowOf T7.zcell (o.map cv) = rowOf zcell o := by
  unfold rowOf
  rw [List.flatMap_map]
  rfl
theorem rd_cv {w : World} {base n c : Nat} {A : Option Addr} {o : List Tz} (h : w.ownsRow base 35 4 (.slice A n c) n (rowOf zcell o)) (hn : n = o.length) : T7.RdZ w A (o.map cv) := by
  rw [← rowOf_cv] at h
  exact RdL.of_own T7.zcell_len h (by rw [List.length_map]; exact hn)
theorem ShowR.gl {l : List Tw} {o : List Tz} {er : Int} (h : ShowR l o er) (hok : ∀ x ∈ l, TwOk x) : GL o := by
  rcases h with ⟨_, _, h⟩ | ⟨T, h1, h2, ⟨h3, _, h4⟩ | ⟨_, _, h4⟩⟩
  · rw [h]; exact .nil
  · rw [h4]
    exact gl_shown h1.1 h3 (fun x hx => (hok x (by rw [← h1.2]; exact hx)).2.2.2.2.1)
  · rw [h4]; exact .nil
def strL (o : List Tz) (er : Int) : List UInt8 × Int := if er = 0 then ((T7.spellL (o.map cv)).1, ((T7.spellL (o.map cv)).2 : Nat)) else ([], er)
def StrPost (w : World) (l : List Tw) (e : Ending) (w' : World) : Prop :=
  ∃ o er, ShowR l o er ∧ Below w.heap.size w w' ∧ e = .returned (.tuple #[.string ⟨(strL o er).1.toArray⟩, .int .i64 (strL o er).2])
set_option maxHeartbeats 4000000 in
theorem stree_any (A : Option Addr) (c : Nat) (l : List Tw) (w : World) (hok : ∀ x ∈ l, TwOk x) (hrd : RdL twcell 4 w A l) (hc : l.length ≤ c) (hlen : l.length ≤ 100000) (htab : Tab w) :
    Calls Tryd.prog 9 #[.slice A l.length c] w (StrPost w l) := by
  have HC := Lib.hid (tokens_any A c l w hok hrd hc hlen)
  have HH := Lib.hid (And.intro hok htab)
  obtain ⟨n, hn⟩ : ∃ n, n = l.length := ⟨_, rfl⟩
  rw [← hn] at HC ⊢
  clear hok hrd hc hlen htab hn
  go_enter Tryd.func9, Tryd.ntmps9
  go_wp2_with fail
  refine HC.out.mono ?_
  rintro e w1 ⟨A1, n1, c1, o, er, rfl, hn1, ho1, hb1, hr1⟩
  have H1 := Lib.hid (And.intro hn1 (And.intro ho1 (And.intro hb1 hr1)))
  clear hn1 ho1 hb1 hr1 HC
  by_cases h0 : er = 0
  · subst h0
    have HS : Hid (Calls Tryd.prog 21 #[.slice A1 n1 c1] w1 (T7.SpellPost w1 (o.map cv))) := Lib.hid (by
      have := T7.spell_any A1 c1 (o.map cv) w1 (rd_cv H1.out.2.1 H1.out.1) (by rw [List.length_map]; have := H1.out.2.2.2.few; omega) (gl_tz (H1.out.2.2.2.gl HH.out.1)) (T7.tab_below HH.out.2 H1.out.2.2.1)
      rwa [List.length_map, ← H1.out.1] at this)
    go_wp2_with fail
    refine HS.out.mono ?_
    rintro e w2 ⟨rfl, hb2⟩
    have H2 := Lib.hid hb2
    clear hb2 HS
    go_wp2_with fail
    go_ret2
    exact ⟨o, 0, H1.out.2.2.2, H1.out.2.2.1.trans (H2.out.mono H1.out.2.2.1.size), by unfold strL; rfl⟩
  · have hne : (er != 0) = true := by simpa using h0
    have HE : Hid (strL o er = ([], er)) := Lib.hid (by unfold strL; rw [if_neg h0])
    clear h0
    go_wp2_with fail
    go_ret2
    exact ⟨o, er, H1.out.2.2.2, H1.out.2.2.1, by rw [HE.out]; rfl⟩
def wakeW : List Tw := [⟨37, 2, 0, bs []⟩, ⟨23, 0, 1, bs []⟩, ⟨37, 2, 0, bs []⟩, ⟨23, 0, 2, bs []⟩, ⟨23, 0, 3, bs []⟩]
def wakeR : Tr := .node ⟨37, 2, 0, bs []⟩ [.node ⟨23, 0, 1, bs []⟩ [], .node ⟨37, 2, 0, bs []⟩ [.node ⟨23, 0, 2, bs []⟩ [], .node ⟨23, 0, 3, bs []⟩ []]]
theorem wakeW_str {o : List Tz} {er : Int} (h : ShowR wakeW o er) : strL o er = ([49, 32, 45, 32, 40, 32, 50, 32, 45, 32, 51, 32, 41], 0) := by
  have hc : (chk wakeW).2 = 0 := by kernel_rfl
  rcases h with ⟨h1, _⟩ | ⟨T, h1, h2, h3⟩
  · exact absurd hc h1
  · have hT : T = wakeR := by
      have hw : Wf wakeR := by simp [wakeR, Wf, Wfs]
      have hf : wakeR.flat = wakeW := by simp [wakeR, wakeW, Tr.flat, flats]
      exact (wf_same T wakeR [] [] (wf_ok T _ h1.1) hw (by rw [List.append_nil, List.append_nil, h1.2, hf])).1
    subst hT
    rcases h3 with ⟨_, rfl, rfl⟩ | ⟨h3, _⟩
    · unfold strL
      rw [if_pos rfl]
      have e : shown wakeR = [⟨2, bs [], 1, 0⟩, sg [45], sg [40], ⟨2, bs [], 2, 0⟩, sg [45], ⟨2, bs [], 3, 0⟩, sg [41]] := by
        simp [shown, wakeR, sh, shs, bodyS, bareS, width, nthS, midT]
      rw [e]
      have k1 : T7.spellL (([⟨2, bs [], 1, 0⟩, sg [45], sg [40], ⟨2, bs [], 2, 0⟩, sg [45], ⟨2, bs [], 3, 0⟩, sg [41]] : List Tz).map cv) = ([49, 32, 45, 32, 40, 32, 50, 32, 45, 32, 51, 32, 41], 0) := by kernel_rfl
      rw [k1]
      rfl
    · exact absurd (Or.inr (by decide)) h3
set_option maxHeartbeats 4000000 in
theorem wakes10_any (w : World) (htab : Tab w) : Calls Tryd.prog 8 #[] w fun e w' => e = .returned (.bool true) ∧ Below w.heap.size w w' := by
  have HT := Lib.hid htab
  clear htab
  have e1 : ((⟨#[49, 32, 45, 32, 40, 32, 50, 32, 45, 32, 51, 32, 41]⟩ : ByteArray).toList == (⟨#[49, 32, 45, 32, 40, 32, 50, 32, 45, 32, 51, 32, 41]⟩ : ByteArray).toList) = true := beq_self_eq_true _
  go_enter Tryd.func8, Tryd.ntmps8
  have hd : RdL twcell 4 (w.alloc (.cells (rowOf twcell wakeW).toArray 42)) (some ⟨w.heap.size, 0, none⟩) wakeW := by
    refine .inr ⟨w.heap.size, 0, rfl, by simp, fun i x hx j v hv => ?_⟩
    have h1 := rowOf_get twcell_len wakeW i x j v hx hv
    rw [Nat.zero_add, (Blk.new w 42 (rowOf twcell wakeW).toArray).cell]
    simpa using h1
  have hok : ∀ x ∈ wakeW, TwOk x := by
    intro x hx
    simp only [wakeW, List.mem_cons, List.not_mem_nil, or_false] at hx
    rcases hx with rfl | rfl | rfl | rfl | rfl <;> (unfold TwOk maxLen; simp [bs]; exact Nat.zero_le _)
  have HC := Lib.hid (stree_any (some ⟨w.heap.size, 0, none⟩) 5 wakeW _ hok hd (Nat.le_refl _) (by decide) (T7.tab_below HT.out ((Below.refl _ _).alloc (Nat.le_refl _) _)))
  clear hd hok
  go_wp2_with fail
  refine HC.out.mono ?_
  rintro e w1 ⟨o, er, hr, hb, rfl⟩
  have hs := wakeW_str hr
  rw [hs]
  have HB := Lib.hid hb
  clear hs hr hb HC
  go_wp2_with fail
  go_ret
  exact ⟨rfl, ((Below.refl _ _).alloc (Nat.le_refl _) _).trans (HB.out.mono (by simp))⟩
theorem rd_at {w : World} {A : Option Addr} {l : List Tw} (h : RdL twcell 4 w A l) (hl : l ≠ []) : ∃ b off, A = some ⟨b, off, none⟩ ∧ ∀ k x, l[k]? = some x → TwAt w b (off + k * 4) x := by
  rcases rdw_of h with h | ⟨b, off, h1, _, h2⟩
  · exact absurd h hl
  · exact ⟨b, off, h1, h2⟩
set_option maxHeartbeats 4000000 in
theorem alike_any (A B : Option Addr) (ca cb n m : Nat) (la lb : List Tw) (w : World) (ha : RdL twcell 4 w A la) (hb : RdL twcell 4 w B lb) (hl : n = la.length) (hl2 : m = lb.length) (hn : n ≤ 1000000) :
    Calls Tryd.prog 11 #[.slice A n ca, .slice B m cb] w fun e w' => e = .returned (.bool (decide (la = lb))) ∧ ∃ q, w' = w.drewN q := by
  by_cases hnm : n = m
  · subst hnm
    have HA := Lib.hid ha
    have HB := Lib.hid hb
    have HL := Lib.hid hl
    have HL2 := Lib.hid hl2
    clear ha hb hl hl2
    go_enter Tryd.func11, Tryd.ntmps11
    go_wp2_with fail
    go_loopw [5] (fun s5 wr => ∃ k : Nat, s5 = .int .i64 k ∧ k ≤ n ∧ la.take k = lb.take k ∧ ∃ q, wr = w.drewN q) (fun s5 _ => n - (intOf s5).toNat)
    case atStart => exact ⟨0, rfl, by omega, rfl, 0, rfl⟩
    case round =>
      obtain ⟨k, rfl, hk, hpre, hw⟩ := hrel
      have HP := Lib.hid (And.intro hpre hw)
      clear hpre hw
      by_cases hlt : k < n
      · have hka : k < la.length := by rw [← HL.out]; exact hlt
        have hkb : k < lb.length := by rw [← HL2.out]; exact hlt
        obtain ⟨ga, hga⟩ : ∃ g, la[k]? = some g := ⟨_, List.getElem?_eq_getElem hka⟩
        obtain ⟨gb, hgb⟩ : ∃ g, lb[k]? = some g := ⟨_, List.getElem?_eq_getElem hkb⟩
        obtain ⟨b1, o1, rfl, hc1⟩ := rd_at HA.out (fun h => by rw [h] at hka; exact absurd hka (by simp))
        obtain ⟨b2, o2, rfl, hc2⟩ := rd_at HB.out (fun h => by rw [h] at hkb; exact absurd hkb (by simp))
        obtain ⟨q, hq⟩ := HP.out.2
        have hat1 : TwAt wr b1 (o1 + k * 4) ga := by rw [hq]; exact hc1 k ga hga
        have hat2 : TwAt wr b2 (o2 + k * 4) gb := by rw [hq]; exact hc2 k gb hgb
        have HG := Lib.hid (And.intro hga (And.intro hgb hq))
        have hkn : (k : Int) < (n : Int) := by omega
        have hk0 : (0 : Int) ≤ (k : Int) := by omega
        clear hga hgb hq hc1 hc2 hka hkb
        obtain ⟨ka, ia, pa, ta⟩ := ga
        obtain ⟨kb, ib, pb, tb⟩ := gb
        obtain ⟨c0, c1, c2, c3⟩ := hat1
        obtain ⟨d0, d1, d2, d3⟩ := hat2
        dsimp only at c0 c1 c2 c3 d0 d1 d2 d3
        have HDIFF : Hid ((⟨ka, ia, pa, ta⟩ : Tw) ≠ ⟨kb, ib, pb, tb⟩ → decide (la = lb) = false) := Lib.hid fun h => decide_eq_false (fun he => h (by have h1 := HG.out.1; rw [he, HG.out.2.1] at h1; injection h1 with h1; exact h1.symm))
        have HSAME : Hid ((⟨ka, ia, pa, ta⟩ : Tw) = ⟨kb, ib, pb, tb⟩ → la.take (k + 1) = lb.take (k + 1)) := Lib.hid fun h => by
          rw [List.take_add_one, List.take_add_one, HG.out.1, HG.out.2.1, HP.out.1, h]
        cases e1 : (ka == kb)
        · have HNE : Hid (decide (la = lb) = false) := Lib.hid (HDIFF.out (fun h => by injection h with h1 h2 h3 h4; rw [h1] at e1; simp at e1))
          have i1 : ((ka : Int) == (kb : Int)) = false := by rw [beq_eq_false_iff_ne]; intro h; have : ka = kb := by omega
                                                             rw [this] at e1; simp at e1
          clear e1
          go_wp2_with fail
          go_quiet (fail)
          go_wp2_with fail
          go_ret
          obtain ⟨q, hq⟩ := HP.out.2
          exact ⟨by rw [HNE.out]; rfl, q + nq, by rw [hq]; exact World.drewN_drewN w q nq⟩
        · cases e2 : (ia == ib)
          · have HNE : Hid (decide (la = lb) = false) := Lib.hid (HDIFF.out (fun h => by injection h with h1 h2 h3 h4; rw [h2] at e2; simp at e2))
            go_wp2_with fail
            go_quiet (fail)
            go_wp2_with fail
            go_ret
            obtain ⟨q, hq⟩ := HP.out.2
            exact ⟨by rw [HNE.out]; rfl, q + nq, by rw [hq]; exact World.drewN_drewN w q nq⟩
          · cases e3 : (pa == pb)
            · have HNE : Hid (decide (la = lb) = false) := Lib.hid (HDIFF.out (fun h => by injection h with h1 h2 h3 h4; rw [h3] at e3; simp at e3))
              go_wp2_with fail
              go_quiet (fail)
              go_wp2_with fail
              go_ret
              obtain ⟨q, hq⟩ := HP.out.2
              exact ⟨by rw [HNE.out]; rfl, q + nq, by rw [hq]; exact World.drewN_drewN w q nq⟩
            · cases e4 : (ta.toList == tb.toList)
              · have HNE : Hid (decide (la = lb) = false) := Lib.hid (HDIFF.out (fun h => by injection h with h1 h2 h3 h4; rw [h4] at e4; simp at e4))
                go_wp2_with fail
                go_quiet (fail)
                go_wp2_with fail
                go_ret
                obtain ⟨q, hq⟩ := HP.out.2
                exact ⟨by rw [HNE.out]; rfl, q + nq, by rw [hq]; exact World.drewN_drewN w q nq⟩
              · have HEQ : Hid (la.take (k + 1) = lb.take (k + 1)) := Lib.hid (HSAME.out (by rw [show ka = kb by simpa using e1, show ia = ib by simpa using e2, show pa = pb by simpa using e3, show ta = tb from T7.bytes_of_list (by simpa using e4)]))
                have q1 : ka = kb := by simpa using e1
                have q2 : ia = ib := by simpa using e2
                have q3 : pa = pb := by simpa using e3
                have q4 : ta = tb := T7.bytes_of_list (by simpa using e4)
                clear e1 e2 e3 e4 HDIFF HSAME
                subst q1; subst q2; subst q3; subst q4
                have e1 : (ta.toList == ta.toList) = true := beq_self_eq_true _
                go_wp2_with fail
                go_quiet (fail)
                go_wp2_with fail
                go_roundw
                case rel =>
                  obtain ⟨q, hq⟩ := HP.out.2
                  exact ⟨k + 1, by go_num, by omega, HEQ.out, q + nq, by rw [hq]; exact World.drewN_drewN w q nq⟩
                case measure => simp [intOf]; omega
      · have HR : Hid (decide (la = lb) = true) := Lib.hid (decide_eq_true (by have h := HP.out.1; rw [List.take_of_length_le (by rw [← HL.out]; omega), List.take_of_length_le (by rw [← HL2.out]; omega)] at h; exact h))
        go_wp2_with fail
        go_ret
        exact ⟨by rw [HR.out]; rfl, HP.out.2⟩
  · have HR : Hid (decide (la = lb) = false) := Lib.hid (decide_eq_false fun h => hnm (by rw [hl, hl2, h]))
    have hne : ((n : Int) != (m : Int)) = true := by
      rw [bne_iff_ne]; omega
    clear hl hl2 hnm ha hb
    go_enter Tryd.func11, Tryd.ntmps11
    go_wp2_with fail
    go_ret
    exact ⟨by rw [HR.out]; rfl, 0, rfl⟩
def ReadPost (w : World) (R : List Tw × Nat × Int) (e : Ending) (w' : World) : Prop :=
  ∃ A n c, e = .returned (.tuple #[.slice A n c, .int .i64 R.2.2]) ∧ Od w w' A n c R.1 ∧ R.1.length ≤ 2048 ∧ Below w.heap.size w w'
set_option maxHeartbeats 4000000 in
theorem read_any (fl : Bool) (s : List UInt8) (hs : s.length ≤ 100000) (w : World) : Calls Tryd.prog 22 #[.string ⟨s.toArray⟩, .bool fl] w (ReadPost w (srcT N0 fl s)) := by
  cases fl with
  | true =>
    have HF := Lib.hid (flow9_any N0 s hs (readF_ne true hs) w)
    generalize srcT N0 _ s = R at *
    obtain ⟨t, q, er⟩ := R
    obtain ⟨st, hst⟩ : ∃ z : ByteArray, z = ⟨s.toArray⟩ := ⟨_, rfl⟩
    rw [← hst] at HF ⊢
    clear hst
    go_enter Tryd.func22, Tryd.ntmps22
    go_wp2_with fail
    refine HF.out.mono ?_
    rintro e w1 ⟨A, n, c, rfl, ho, hl, hb⟩
    have H1 := Lib.hid (And.intro ho (And.intro hl hb))
    clear ho hl hb HF
    go_wp2_with fail
    go_ret2
    exact ⟨A, n, c, rfl, H1.out.1, H1.out.2.1, H1.out.2.2⟩
  | false =>
    have HF := Lib.hid (expr5_any N0 s hs (readF_ne false hs) w)
    generalize srcT N0 _ s = R at *
    obtain ⟨t, q, er⟩ := R
    obtain ⟨st, hst⟩ : ∃ z : ByteArray, z = ⟨s.toArray⟩ := ⟨_, rfl⟩
    rw [← hst] at HF ⊢
    clear hst
    go_enter Tryd.func22, Tryd.ntmps22
    go_wp2_with fail
    refine HF.out.mono ?_
    rintro e w1 ⟨A, n, c, rfl, ho, hl, hb⟩
    have H1 := Lib.hid (And.intro ho (And.intro hl hb))
    clear ho hl hb HF
    go_wp2_with fail
    go_ret2
    exact ⟨A, n, c, rfl, H1.out.1, H1.out.2.1, H1.out.2.2⟩
end Go.Proofs.YtbcadlocldplfaaDoor
namespace Go.Proofs.YtbcadlocldplfaaDoor
open T8
/-! Reading tokens that are the same but for their places. -/
theorem key_same {t : Tok} {x : Tz} (h : T7.tk t = T7.tz (cv x)) : zkey (zOf t) = zkey x := by
  unfold T7.tk T7.tz cv T7.Tz.tx at h
  simp only [Prod.mk.injEq] at h
  unfold zkey zOf
  rw [h.1, h.2.1, h.2.2]
  obtain ⟨k, ⟨⟨tx⟩⟩, iv, p⟩ := x
  rfl
theorem same_keys : ∀ (ks : List Tok) (o : List Tz), ks.map T7.tk = (o.map cv).map T7.tz → SameZ (ks.map zOf) o
  | [], [], _ => rfl
  | [], _ :: _, h => by cases h
  | _ :: _, [], h => by cases h
  | t :: ks, x :: o, h => by
    simp only [List.map_cons, List.cons.injEq] at h
    have ih := same_keys ks o h.2
    unfold SameZ at ih ⊢
    rw [List.map_cons, List.map_cons, List.map_cons, key_same h.1, ih]
theorem cp_key {x y : Tz} (h : zkey x = zkey y) : cp x = cp y := by
  unfold zkey at h
  simp only [Prod.mk.injEq] at h
  unfold cp
  show (if ((decide (x.kind = 1) || decide (x.kind = 4)) && decide (x.text.data.toList = [40])) = true then 1 else 0) = (if ((decide (y.kind = 1) || decide (y.kind = 4)) && decide (y.text.data.toList = [40])) = true then 1 else 0)
  rw [h.1, h.2.1]
theorem cnt_same : ∀ {a b : List Tz}, SameZ a b → cnt a = cnt b
  | [], [], _ => rfl
  | [], _ :: _, h => by cases h
  | _ :: _, [], h => by cases h
  | x :: a, y :: b, h => by
    unfold SameZ at h
    simp only [List.map_cons, List.cons.injEq] at h
    rw [cnt, cnt, cp_key h.1, cnt_same h.2]
theorem shown_flow {T : Tr} (hk : opOf T = 1) : shown T = sh T 13 := by
  obtain ⟨x, ks⟩ := T
  have hk2 : x.op = 1 := hk
  unfold shown
  dsimp only
  rw [if_pos hk2]
theorem shown_expr {T : Tr} (hk : opOf T ≠ 1) : shown T = sh T 1 := by
  obtain ⟨x, ks⟩ := T
  have hk2 : x.op ≠ 1 := hk
  unfold shown
  dsimp only
  rw [if_neg hk2]
theorem spelled_len {l : List T7.Tz} (h : (T7.spellL l).2 = 0) : (T7.spellL l).1.length ≤ 16384 := by
  unfold T7.spellL at h ⊢
  split
  · rename_i h1
    rw [if_pos h1] at h
    split at h
    · cases h
    · rename_i h2; rw [if_neg h2]; show (T7.spF false l).length ≤ _; omega
  · simp
theorem gl_ints {o : List Tz} (h : GL o) : ∀ x ∈ o.map cv, x.int ≤ 9223372036854775807 := fun x hx => by
  obtain ⟨y, hy, rfl⟩ := List.mem_map.1 hx
  exact (h y hy).2
theorem spell_err2 {o : List Tz} (h : GL o) : (T7.spellL (o.map cv)).2 = 0 ∨ ((T7.spellL (o.map cv)).2 = 2 ∧ (T7.spellL (o.map cv)).1 = []) := by
  unfold T7.spellL
  have hr : (o.map cv).all T7.rightB = true := by
    rw [List.all_eq_true]
    intro x hx
    obtain ⟨y, hy, rfl⟩ := List.mem_map.1 hx
    exact (h y hy).1
  rw [if_pos hr]
  split
  · exact .inr ⟨rfl, rfl⟩
  · exact .inl rfl
theorem srcT_ok {fl : Bool} {s : List UInt8} (hs : s.length ≤ 100000) {t : List Tw} {q : Nat} (h : srcT N0 fl s = (t, q, 0)) : (srcL s).2.2 = 0 ∧ readF N0 fl ((srcL s).1.map zOf) = .ok t [] false ∧ q = 0 ∧ (chk t).2 = 0 := by
  unfold srcT at h
  split at h
  · rename_i h0
    refine ⟨h0, ?_⟩
    cases hr : readF N0 fl ((srcL s).1.map zOf) with
    | out =>
      exact absurd hr (readF_ne fl hs)
    | bad l =>
      rw [hr] at h
      unfold endT faultAt at h
      cases l <;> simp at h
    | ok u l m =>
      rw [hr] at h
      unfold endT at h
      cases l with
      | nil =>
        simp only [List.isEmpty_nil, if_true] at h
        split at h
        · simp at h
        · rename_i hm
          simp only [Bool.or_eq_true, decide_eq_true_eq, not_or, Bool.not_eq_true, Decidable.not_not] at hm
          simp only [Prod.mk.injEq] at h
          obtain ⟨h1, h2, _⟩ := h
          subst h1
          rw [hm.1]
          exact ⟨rfl, h2.symm, hm.2⟩
      | cons x l =>
        simp only [List.isEmpty_cons] at h
        unfold faultAt at h
        simp at h
  · rename_i h0
    simp only [Prod.mk.injEq] at h
    omega
theorem spelled_least {T : Tr} (hT : Wf T) {o : List Tz} (hg : GL o) (hs : (T7.spellL (o.map cv)).2 = 0) (hk : Kind T) (hlt : cnt o < cnt (shown T)) {q : Nat} : srcT N0 (decide (opOf T = 1)) (T7.spellL (o.map cv)).1 ≠ (T.flat, q, 0) := by
  intro h
  obtain ⟨ks, h1, h2, h3⟩ := T7.back (o.map cv) (gl_ints hg) hs
  have hsame := cnt_same (same_keys ks o h2)
  obtain ⟨_, hr, _, _⟩ := srcT_ok (by omega) h
  rw [h1] at hr
  rcases hk with hk | hk
  · rw [decide_eq_true hk] at hr
    have h4 := flow_least hT hr
    rw [shown_flow hk] at hlt
    dsimp only at h4
    omega
  · have hk1 : opOf T ≠ 1 := by
      intro he
      rw [he] at hk
      cases hk
    rw [decide_eq_false hk1] at hr
    have h4 := expr_least hT hr
    rw [shown_expr hk1] at hlt
    dsimp only at h4
    omega
/-! What a source's tokens are. -/
/-! What a reading begins with. -/
end Go.Proofs.YtbcadlocldplfaaDoor
namespace Go.Proofs.YtbcadlocldplfaaDoor
set_option maxRecDepth 100000
open Go.RowKit T8
theorem rdl_of {w : World} {A : Option Addr} {l : List Tw} (h : RdW w A l) : RdL twcell 4 w A l := by
  rcases h with h | ⟨b, off, h1, h2, h3⟩
  · exact .inl h
  · refine .inr ⟨b, off, h1, h2, fun k x hx j v hv => ?_⟩
    obtain ⟨c0, c1, c2, c3⟩ := h3 k x hx
    match j, hv with
    | 0, hv => obtain rfl := Option.some.inj hv; exact c0
    | 1, hv => obtain rfl := Option.some.inj hv; exact c1
    | 2, hv => obtain rfl := Option.some.inj hv; exact c2
    | 3, hv => obtain rfl := Option.some.inj hv; exact c3
    | j + 4, hv => simp [twcell] at hv
end Go.Proofs.YtbcadlocldplfaaDoor
namespace Go.Proofs.YtbcadlocldplfaaDoor
open T8
def opZ (x : Tz) : Bool := decide (x.kind = 4) && decide (x.text.data.toList = [40])
def clZ (x : Tz) : Bool := decide (x.kind = 4) && decide (x.text.data.toList = [41])
def cls : Nat → Nat → List Tz → Nat
  | _, k, [] => k
  | c, k, x :: r => if opZ x then cls (c + 1) (k + 1) r else if clZ x then (if c = 1 then k else cls (c - 1) (k + 1) r) else cls c (k + 1) r
inductive Bl : List Tz → Prop where
  | nil : Bl []
  | tok {x : Tz} (h : opZ x = false ∧ clZ x = false) : Bl [x]
  | app {a b : List Tz} (h : Bl a) (h2 : Bl b) : Bl (a ++ b)
  | wrap {a : List Tz} (h : Bl a) : Bl (sg [40] :: (a ++ [sg [41]]))
theorem cls_over {a : List Tz} (h : Bl a) : ∀ (c k : Nat) (r : List Tz), 1 ≤ c → cls c k (a ++ r) = cls c (k + a.length) r := by
  induction h with
  | nil => intro c k r hc; rfl
  | @tok x h =>
    intro c k r hc
    rw [List.singleton_append, cls, h.1, h.2]
    rfl
  | @app a b h h2 ih ih2 =>
    intro c k r hc
    rw [List.append_assoc, ih c k _ hc, ih2 c _ r hc, List.length_append, Nat.add_assoc]
  | @wrap a h ih =>
    intro c k r hc
    rw [List.cons_append, List.append_assoc, cls, if_pos (show opZ (sg [40]) = true from rfl), ih (c + 1) (k + 1) _ (by omega), List.singleton_append, cls, if_neg (by rw [show opZ (sg [41]) = false from rfl]; simp), if_pos (show clZ (sg [41]) = true from rfl), if_neg (by omega)]
    rw [List.length_cons, List.length_append, List.length_singleton, Nat.add_sub_cancel]
    congr 1
    omega
theorem cls_at {a : List Tz} (h : Bl a) : ∀ (i : Nat) (x : Tz), a[i]? = some x → opZ x = true → ∀ (base : Nat) (r : List Tz), ∃ R, cls 0 (base + i) (a.drop i ++ r) = base + R ∧ i < R ∧ R < a.length ∧ ∃ y, a[R]? = some y ∧ clZ y = true := by
  induction h with
  | nil => intro i x hx; simp at hx
  | @tok y h =>
    intro i x hx ho
    cases i with
    | zero =>
      obtain rfl : y = x := by simpa using hx
      rw [h.1] at ho; cases ho
    | succ i => simp at hx
  | @app a b h h2 ih ih2 =>
    intro i x hx ho base r
    rcases Nat.lt_or_ge i a.length with hi | hi
    · rw [List.getElem?_append_left hi] at hx
      obtain ⟨R, h3, h4, h5, y, h6, h7⟩ := ih i x hx ho base (b ++ r)
      refine ⟨R, ?_, h4, by rw [List.length_append]; omega, y, by rw [List.getElem?_append_left h5]; exact h6, h7⟩
      rw [List.drop_append_of_le_length (by omega), List.append_assoc]
      exact h3
    · rw [List.getElem?_append_right hi] at hx
      obtain ⟨R, h3, h4, h5, y, h6, h7⟩ := ih2 (i - a.length) x hx ho (base + a.length) r
      refine ⟨a.length + R, ?_, by omega, by rw [List.length_append]; omega, y, by rw [List.getElem?_append_right (by omega), Nat.add_sub_cancel_left]; exact h6, h7⟩
      rw [List.drop_append, List.drop_of_length_le hi, List.nil_append, show base + i = base + a.length + (i - a.length) by omega, h3]
      omega
  | @wrap a h ih =>
    intro i x hx ho base r
    cases i with
    | zero =>
      refine ⟨1 + a.length, ?_, by omega, by rw [List.length_cons, List.length_append, List.length_singleton]; omega, sg [41], ?_, rfl⟩
      · rw [List.drop_zero, List.cons_append, List.append_assoc, cls, if_pos (show opZ (sg [40]) = true from rfl), cls_over h _ _ _ (by omega), List.singleton_append, cls, if_neg (by rw [show opZ (sg [41]) = false from rfl]; simp), if_pos (show clZ (sg [41]) = true from rfl), if_pos rfl]
        omega
      · rw [Nat.add_comm, List.getElem?_cons_succ, List.getElem?_append_right (Nat.le_refl _), Nat.sub_self]
        rfl
    | succ j =>
      rw [List.getElem?_cons_succ] at hx
      rcases Nat.lt_or_ge j a.length with hj | hj
      · rw [List.getElem?_append_left hj] at hx
        obtain ⟨R, h3, h4, h5, y, h6, h7⟩ := ih j x hx ho (base + 1) ([sg [41]] ++ r)
        refine ⟨R + 1, ?_, by omega, by rw [List.length_cons, List.length_append]; omega, y, by rw [List.getElem?_cons_succ, List.getElem?_append_left h5]; exact h6, h7⟩
        rw [List.drop_succ_cons, List.drop_append_of_le_length (by omega), List.append_assoc, show base + (j + 1) = base + 1 + j by omega, h3]
        omega
      · exfalso
        rw [List.getElem?_append_right hj] at hx
        have hj0 : j - a.length = 0 := by
          rcases Nat.eq_zero_or_pos (j - a.length) with h0 | h0
          · exact h0
          · rw [List.getElem?_eq_none (by simp; omega)] at hx; cases hx
        rw [hj0] at hx
        obtain rfl : sg [41] = x := by simpa using hx
        cases ho
namespace BL
abbrev GL (l : List Tz) : Prop := Bl l
abbrev Neu (x : Tz) : Prop := opZ x = false ∧ clZ x = false
theorem GL.nil : GL [] := Bl.nil
theorem GL.app {a b : List Tz} (h : GL a) (h2 : GL b) : GL (a ++ b) := Bl.app h h2
theorem GL.cons {x : Tz} {l : List Tz} (h : Neu x) (hl : GL l) : GL (x :: l) := by
  have := Bl.app (Bl.tok h) hl
  rwa [List.singleton_append] at this
theorem gd_wd {s : List UInt8} (_ : T7.wordOk s = true) : Neu (wd s) := ⟨rfl, rfl⟩
theorem gd_wt {s : ByteArray} (_ : T7.wordOk s.data.toList = true) : Neu (wt s) := ⟨rfl, rfl⟩
theorem gd_sg {s : List UInt8} (h : s ≠ [40] ∧ s ≠ [41]) : Neu (sg s) := by
  refine ⟨?_, ?_⟩
  · show (decide ((4 : Nat) = 4) && decide (s = [40])) = false
    rw [decide_eq_false h.1]; rfl
  · show (decide ((4 : Nat) = 4) && decide (s = [41])) = false
    rw [decide_eq_false h.2]; rfl
theorem gd_mid (op : Nat) : Neu (midT op) := by
  unfold midT
  repeat' split
  all_goals exact ⟨rfl, rfl⟩
theorem gd_one (op : Nat) : Neu (oneT op) := by
  unfold oneT
  repeat' split
  all_goals exact ⟨rfl, rfl⟩
/-! What is shown of good twigs. -/
theorem gl_br {x : Tw} {ks : List Tr} (h : GL (bareS x (shs ks))) {a : Nat} (ha : a ≤ 9) : GL (sh (.node x ks) a) := by
  rw [sh_expr x ks ha]
  split
  · exact .wrap h
  · exact h
theorem gl_commas {m : Nat} : ∀ {ks : List Tr}, (∀ k ∈ ks, GL (sh k m)) → GL (commas m (shs ks))
  | [], _ => by rw [shs, commas]; exact GL.nil
  | [k], h => by rw [shs, shs, commas]; exact h k (by simp)
  | k :: j :: ks, h => by
    have h2 := gl_commas (ks := j :: ks) (m := m) (fun i hi => h i (by simp [hi]))
    rw [show shs (k :: j :: ks) = sh k :: sh j :: shs ks from by rw [shs, shs], commas]
    rw [show shs (j :: ks) = sh j :: shs ks from by rw [shs]] at h2
    exact GL.app (h k (by simp)) (GL.cons (gd_sg (by decide)) h2)
theorem gl_all {m : Nat} : ∀ {ks : List Tr}, (∀ k ∈ ks, GL (sh k m)) → GL (allS m (shs ks))
  | [], _ => by rw [shs]; exact GL.nil
  | k :: ks, h => by
    have h2 := gl_all (ks := ks) (m := m) (fun i hi => h i (by simp [hi]))
    unfold allS at h2 ⊢
    rw [shs, List.flatMap_cons]
    exact GL.app (h k (by simp)) h2
theorem gl_lis {o e : List UInt8} (ho : (o = [40] ∧ e = [41]) ∨ (o = [91] ∧ e = [93])) {ks : List Tr} (h : ∀ k ∈ ks, GL (sh k 1)) : GL (lisS o (shs ks) e) := by
  rcases ho with ⟨rfl, rfl⟩ | ⟨rfl, rfl⟩
  · exact .wrap (gl_commas h)
  · exact GL.cons (gd_sg (by decide)) (GL.app (gl_commas h) (GL.cons (gd_sg (by decide)) GL.nil))
theorem gl_any {kd : Nat} {t : Tr} (h : Rt kd t) : Nices t → (kd = 0 → ∀ a, a ≤ 9 → GL (sh t a)) ∧ (kd = 1 → GL (sh t 10)) ∧ (kd = 2 → GL (sh t 11)) := by
  induction h with
  | @word op ho =>
    refine fun _ => ⟨fun _ a ha => gl_br ?_ ha, fun h => (by cases h), fun h => (by cases h)⟩
    rcases ho with rfl | rfl | rfl | rfl <;> exact GL.cons (gd_wd (by decide)) GL.nil
  | int i =>
    intro hn
    refine ⟨fun _ a ha => gl_br ?_ ha, fun h => (by cases h), fun h => (by cases h)⟩
    exact GL.cons ⟨rfl, rfl⟩ GL.nil
  | text s =>
    intro hn
    refine ⟨fun _ a ha => gl_br ?_ ha, fun h => (by cases h), fun h => (by cases h)⟩
    exact GL.cons ⟨rfl, rfl⟩ GL.nil
  | name hs =>
    refine fun hn => ⟨fun _ a ha => gl_br ?_ ha, fun h => (by cases h), fun h => (by cases h)⟩
    exact GL.cons (gd_wt (hn.top.1 (by simp))) GL.nil
  | take hs =>
    refine fun hn => ⟨fun _ a ha => gl_br ?_ ha, fun h => (by cases h), fun h => (by cases h)⟩
    exact GL.cons (gd_wd (s := [116, 97, 107, 101]) (by decide)) (GL.cons (gd_wt (hn.top.1 (by simp))) GL.nil)
  | @list ks h ih =>
    refine fun hn => ⟨fun _ a ha => gl_br ?_ ha, fun h => (by cases h), fun h => (by cases h)⟩
    exact gl_lis (.inr ⟨rfl, rfl⟩) fun k hk => (ih k hk (hn.kid hk)).1 rfl 1 (by omega)
  | @call op s ks ho hs h ih =>
    refine fun hn => ⟨fun _ a ha => gl_br ?_ ha, fun h => (by cases h), fun h => (by cases h)⟩
    have h1 := gl_lis (o := [40]) (e := [41]) (.inl ⟨rfl, rfl⟩) fun k hk => (ih k hk (hn.kid hk)).1 rfl 1 (by omega)
    have h2 := hn.top.1
    rcases ho with rfl | rfl
    · exact GL.cons (gd_wd (s := [99, 97, 108, 108]) (by decide)) (GL.cons (gd_wt (h2 (by simp))) h1)
    · exact GL.cons (gd_wd (s := [99, 104, 105, 108, 100]) (by decide)) (GL.cons (gd_wt (h2 (by simp))) h1)
  | @one op k ho h ih =>
    refine fun hn => ⟨fun _ a ha => gl_br ?_ ha, fun h => (by cases h), fun h => (by cases h)⟩
    have h1 := gl_lis (o := [40]) (e := [41]) (.inl ⟨rfl, rfl⟩) (mem_one ((ih (hn.kid (by simp))).1 rfl 1 (by omega)))
    have e : bareS ⟨op, 1, 0, bs []⟩ (shs [k]) = oneT op :: lisS [40] (shs [k]) [41] := by rcases ho with rfl | rfl | rfl | rfl | rfl <;> rfl
    rw [e]
    exact GL.cons (gd_one op) h1
  | @num k j h h2 ih ih2 =>
    refine fun hn => ⟨fun _ a ha => gl_br ?_ ha, fun h => (by cases h), fun h => (by cases h)⟩
    exact GL.cons (gd_one 41) (gl_lis (o := [40]) (e := [41]) (.inl ⟨rfl, rfl⟩) (mem_duo ((ih (hn.kid (by simp))).1 rfl 1 (by omega)) ((ih2 (hn.kid (by simp))).1 rfl 1 (by omega))))
  | @fork k h ih =>
    refine fun hn => ⟨fun _ a ha => gl_br ?_ ha, fun h => (by cases h), fun h => (by cases h)⟩
    rw [shs1]
    exact GL.cons (gd_wd (s := [102, 111, 114, 107]) (by decide)) ((ih (hn.kid (by simp))).2.1 rfl)
  | @not k h ih =>
    refine fun hn => ⟨fun _ a ha => gl_br ?_ ha, fun h => (by cases h), fun h => (by cases h)⟩
    rw [shs1]
    exact GL.cons (gd_wd (s := [110, 111, 116]) (by decide)) ((ih (hn.kid (by simp))).1 rfl 3 (by omega))
  | @pre op k ho h ih =>
    refine fun hn => ⟨fun _ a ha => gl_br ?_ ha, fun h => (by cases h), fun h => (by cases h)⟩
    have h1 := (ih (hn.kid (by simp))).1 rfl 7 (by omega)
    rw [shs1]
    rcases ho with rfl | rfl | rfl
    · exact GL.cons (gd_sg (s := [45]) (by decide)) h1
    · exact GL.cons (gd_wd (s := [97, 119, 97, 105, 116]) (by decide)) h1
    · exact GL.cons (gd_wd (s := [115, 101, 116, 116, 108, 101]) (by decide)) h1
  | @at_ k j h h2 ih ih2 =>
    refine fun hn => ⟨fun _ a ha => gl_br ?_ ha, fun h => (by cases h), fun h => (by cases h)⟩
    rw [shs2]
    exact GL.app ((ih (hn.kid (by simp))).1 rfl 8 (by omega)) (GL.cons (gd_sg (s := [91]) (by decide)) (GL.app ((ih2 (hn.kid (by simp))).1 rfl 1 (by omega)) (GL.cons (gd_sg (s := [93]) (by decide)) GL.nil)))
  | @cmp op k j ho h h2 ih ih2 =>
    refine fun hn => ⟨fun _ a ha => gl_br ?_ ha, fun h => (by cases h), fun h => (by cases h)⟩
    rw [shs2]
    have e : bareS ⟨op, 2, 0, bs []⟩ [sh k, sh j] = sh k 5 ++ midT op :: sh j 5 := by
      have : op = 32 ∨ op = 33 ∨ op = 34 ∨ op = 35 := by omega
      rcases this with rfl | rfl | rfl | rfl <;> rfl
    rw [e]
    exact GL.app ((ih (hn.kid (by simp))).1 rfl 5 (by omega)) (GL.cons (gd_mid op) ((ih2 (hn.kid (by simp))).1 rfl 5 (by omega)))
  | @bin op k j ho h h2 ih ih2 =>
    refine fun hn => ⟨fun _ a ha => gl_br ?_ ha, fun h => (by cases h), fun h => (by cases h)⟩
    have hc : op = 30 ∨ op = 31 ∨ op = 36 ∨ op = 37 ∨ op = 38 ∨ op = 39 ∨ op = 40 := by omega
    have hw : width op ≤ 6 := by rcases hc with rfl | rfl | rfl | rfl | rfl | rfl | rfl <;> decide
    rw [shs2]
    have e : bareS ⟨op, 2, 0, bs []⟩ [sh k, sh j] = sh k (width op) ++ midT op :: sh j (width op + 1) := by rcases hc with rfl | rfl | rfl | rfl | rfl | rfl | rfl <;> rfl
    rw [e]
    exact GL.app ((ih (hn.kid (by simp))).1 rfl _ (by omega)) (GL.cons (gd_mid op) ((ih2 (hn.kid (by simp))).1 rfl _ (by omega)))
  | @block ks h ih =>
    refine fun hn => ⟨fun h => (by cases h), fun _ => ?_, fun h => (by cases h)⟩
    rw [sh_node]
    exact GL.cons (gd_sg (s := [123]) (by decide)) (GL.app (gl_all (m := 11) fun k hk => (ih k hk (hn.kid hk)).2.2 rfl) (GL.cons (gd_sg (s := [125]) (by decide)) GL.nil))
  | @put op s k ho hs h ih =>
    refine fun hn => ⟨fun h => (by cases h), fun h => (by cases h), fun _ => ?_⟩
    have h1 := (ih (hn.kid (by simp))).1 rfl 1 (by omega)
    have h2 := hn.top.1
    rw [sh_node, shs1]
    rcases ho with rfl | rfl
    · exact GL.cons (gd_wd (s := [108, 101, 116]) (by decide)) (GL.cons (gd_wt (h2 (by simp))) (GL.cons (gd_sg (s := [61]) (by decide)) h1))
    · exact GL.cons (gd_wt (h2 (by simp))) (GL.cons (gd_sg (s := [61]) (by decide)) h1)
  | @if2 k j h h2 ih ih2 =>
    refine fun hn => ⟨fun h => (by cases h), fun h => (by cases h), fun _ => ?_⟩
    rw [sh_node, shs2]
    exact GL.cons (gd_wd (s := [105, 102]) (by decide)) (GL.app ((ih (hn.kid (by simp))).1 rfl 1 (by omega)) (GL.app ((ih2 (hn.kid (by simp))).2.1 rfl) GL.nil))
  | @if3 k j i h h2 h3 ih ih2 ih3 =>
    refine fun hn => ⟨fun h => (by cases h), fun h => (by cases h), fun _ => ?_⟩
    rw [sh_node, shs3]
    exact GL.cons (gd_wd (s := [105, 102]) (by decide)) (GL.app ((ih (hn.kid (by simp))).1 rfl 1 (by omega)) (GL.app ((ih2 (hn.kid (by simp))).2.1 rfl) (GL.cons (gd_wd (s := [101, 108, 115, 101]) (by decide)) ((ih3 (hn.kid (by simp))).2.1 rfl))))
  | @while_ k j h h2 ih ih2 =>
    refine fun hn => ⟨fun h => (by cases h), fun h => (by cases h), fun _ => ?_⟩
    rw [sh_node, shs2]
    exact GL.cons (gd_wd (s := [119, 104, 105, 108, 101]) (by decide)) (GL.app ((ih (hn.kid (by simp))).1 rfl 1 (by omega)) ((ih2 (hn.kid (by simp))).2.1 rfl))
  | @do_ op k ho h ih =>
    refine fun hn => ⟨fun h => (by cases h), fun h => (by cases h), fun _ => ?_⟩
    have h1 := (ih (hn.kid (by simp))).1 rfl 1 (by omega)
    rw [sh_node, shs1]
    have : op = 8 ∨ op = 9 ∨ op = 10 ∨ op = 11 := by omega
    rcases this with rfl | rfl | rfl | rfl
    · exact GL.cons (gd_wd (s := [114, 101, 116, 117, 114, 110]) (by decide)) h1
    · exact GL.cons (gd_wd (s := [102, 97, 105, 108]) (by decide)) h1
    · exact GL.cons (gd_wd (s := [115, 108, 101, 101, 112]) (by decide)) h1
    · exact GL.cons (gd_wd (s := [100, 111]) (by decide)) h1
theorem gl_shown {T : Tr} {may : Nat → Bool} (h : T.ok may) (hk : Kind T) (hi : ∀ x ∈ T.flat, x.int ≤ 9223372036854775807) : GL (shown T) := by
  have hn : Nices T := fun x hx => by
    obtain ⟨m, hm⟩ := flat_fine T may h x hx
    exact nice_of hm (hi x hx)
  have hg := rt_of T may h
  obtain ⟨x, ks⟩ := T
  unfold shown
  rcases hk with hk | hk
  · have hk1 : x.op = 1 := hk
    dsimp only
    rw [if_pos hk1]
    obtain ⟨s, ss, b, h1, h2, h3, h4⟩ := hg.2.2.2.2 hk
    rw [h4] at hn ⊢
    rw [sh_node]
    show GL (flowS _ _)
    unfold flowS
    have e1 : shs (ss.map nameT ++ [b]) = shs (ss.map nameT) ++ [sh b] := by rw [shs_map, shs_map, List.map_append]; rfl
    have e2 : nthS (shs (ss.map nameT) ++ [sh b]) ((shs (ss.map nameT) ++ [sh b]).length - 1) 10 = sh b 10 := by
      unfold nthS
      rw [List.length_append, List.length_singleton, Nat.add_sub_cancel, List.getElem?_append_right (Nat.le_refl _), Nat.sub_self]
      rfl
    rw [e1, List.dropLast_concat, e2]
    rw [show sg [40] :: (commas 12 (shs (ss.map nameT)) ++ sg [41] :: sh b 10) = (sg [40] :: (commas 12 (shs (ss.map nameT)) ++ [sg [41]])) ++ sh b 10 from by simp]
    refine GL.cons (gd_wd (by decide)) (GL.cons (gd_wt (hn.top.1 (by simp))) (GL.app (.wrap (gl_commas fun k hk => ?_)) ((gl_any h3 (hn.kid (by simp))).2.1 rfl)))
    have hk2 := hn.kid (k := k) (by simp [List.mem_append, hk])
    obtain ⟨s2, _, rfl⟩ := List.mem_map.1 hk
    have e3 : sh (nameT s2) 12 = [wt s2] := by unfold nameT; rw [sh_node]; rfl
    rw [e3]
    exact GL.cons (gd_wt ((Nices.top hk2).1 (by simp))) GL.nil
  · have hk1 : x.op ≠ 1 := by
      intro he
      have hk2 : exprB x.op = true := hk
      rw [he] at hk2
      cases hk2
    dsimp only
    rw [if_neg hk1]
    exact (gl_any (hg.1 hk) hn).1 rfl 1 (by omega)
end BL
theorem shown_closes {T : Tr} {may : Nat → Bool} (h : T.ok may) (hk : Kind T) (hi : ∀ x ∈ T.flat, x.int ≤ 9223372036854775807) {i : Nat} {x : Tz} (hx : (shown T)[i]? = some x) (ho : opZ x = true) :
    i < cls 0 i ((shown T).drop i) ∧ cls 0 i ((shown T).drop i) < (shown T).length ∧ ∃ y, (shown T)[cls 0 i ((shown T).drop i)]? = some y ∧ clZ y = true := by
  obtain ⟨R, h1, h2, h3, y, h4, h5⟩ := cls_at (BL.gl_shown h hk hi) i x hx ho 0 []
  rw [List.append_nil, Nat.zero_add, Nat.zero_add] at h1
  rw [h1]
  exact ⟨h2, h3, y, h4, h5⟩
def lessL (o : List Tz) (i k : Nat) : List Tz := o.take i ++ (o.take k).drop (i + 1) ++ o.drop (k + 1)
theorem cp_opZ {x : Tz} (h : opZ x = true) : cp x = 1 := by
  unfold opZ at h
  rw [Bool.and_eq_true, decide_eq_true_eq, decide_eq_true_eq] at h
  unfold cp
  show (if ((decide (x.kind = 1) || decide (x.kind = 4)) && decide (x.text.data.toList = [40])) = true then 1 else 0) = 1
  rw [h.1, h.2]; rfl
theorem less_cnt {o : List Tz} {i k : Nat} {x : Tz} (hx : o[i]? = some x) (ho : opZ x = true) (hik : i < k) (hk : k < o.length) : cnt (lessL o i k) < cnt o := by
  have e1 : o = o.take i ++ (x :: ((o.take k).drop (i + 1) ++ o.drop k)) := by
    have h1 : (o.take k).drop (i + 1) ++ o.drop k = o.drop (i + 1) := by
      have h2 := List.take_append_drop (k - (i + 1)) (o.drop (i + 1))
      rw [List.drop_drop, show i + 1 + (k - (i + 1)) = k by omega, ← List.drop_take] at h2
      exact h2
    rw [h1]
    obtain ⟨hlt, hx2⟩ := List.getElem?_eq_some_iff.1 hx
    rw [← hx2, ← List.drop_eq_getElem_cons hlt, List.take_append_drop]
  have e2 : cnt (o.drop (k + 1)) ≤ cnt (o.drop k) := by
    rw [List.drop_eq_getElem_cons hk, cnt]; omega
  conv => rhs; rw [e1]
  unfold lessL
  rw [cnt_app, cnt_app, cnt_app, cnt, cnt_app, cp_opZ ho]
  omega
theorem less_gl {o : List Tz} {i k : Nat} (h : GL o) : GL (lessL o i k) := by
  intro x hx
  refine h x ?_
  unfold lessL at hx
  rcases List.mem_append.1 hx with hx | hx
  · rcases List.mem_append.1 hx with hx | hx
    · exact List.mem_of_mem_take hx
    · exact List.mem_of_mem_take (List.mem_of_mem_drop hx)
  · exact List.mem_of_mem_drop hx
end Go.Proofs.YtbcadlocldplfaaDoor
namespace Go.Proofs.YtbcadlocldplfaaDoor
set_option maxRecDepth 100000
open Go.RowKit
def AroundPost (w : World) (o : List Tz) (i : Nat) (e : Ending) (w' : World) : Prop := w' = w ∧ ∃ b, e = .returned (.bool b) ∧ (b = true → ∃ x, o[i]? = some x ∧ opZ x = true)
theorem tok_at {w : World} {b off : Nat} {o : List Tz} (hat : ∀ i x, o[i]? = some x → ∀ j v, (zcell x)[j]? = some v → w.cell? ⟨b, off + i * 4 + j, none⟩ = some v) {i : Nat} {x : Tz} (hx : o[i]? = some x) : w.cell? ⟨b, off + i * 4, none⟩ = some (.int .u8 (x.kind : Nat)) ∧ w.cell? ⟨b, off + i * 4 + 1, none⟩ = some (.string x.text) := ⟨hat i x hx 0 _ rfl, hat i x hx 1 _ rfl⟩
theorem lit_of {s : List UInt8} {tx : ByteArray} (h : (tx.toList == s) = true) : tx.data.toList = s := by
  rw [beq_iff_eq, ByteArray.toList_eq] at h
  exact h
theorem lit_ne {s : List UInt8} {tx : ByteArray} (h : tx.data.toList ≠ s) : (tx.toList == s) = false := by
  rw [beq_eq_false_iff_ne]
  intro h1
  rw [ByteArray.toList_eq] at h1
  exact h h1
theorem lit_no {s : List UInt8} {tx : ByteArray} (h : (tx.toList == s) = false) : tx.data.toList ≠ s := by
  rw [beq_eq_false_iff_ne, ByteArray.toList_eq] at h
  exact h
set_option maxHeartbeats 8000000 in
theorem around_any (A : Option Addr) (c n i : Nat) (o : List Tz) (w : World) (hrd : RdZ w A o) (hn : n = o.length) (hi : i < n) (hn9 : n ≤ 100000) : Calls Tryd.prog 23 #[.slice A n c, .int .i64 (i : Nat)] w (AroundPost w o i) := by
  obtain ⟨b, off, rfl, hb, hat⟩ : ∃ b off, A = some ⟨b, off, none⟩ ∧ b < w.heap.size ∧ ∀ i x, o[i]? = some x → ∀ j v, (zcell x)[j]? = some v → w.cell? ⟨b, off + i * 4 + j, none⟩ = some v := hrd.resolve_left (fun h => by rw [h] at hn; simp at hn; omega)
  obtain ⟨x, hx⟩ : ∃ x, o[i]? = some x := ⟨_, List.getElem?_eq_getElem (by omega)⟩
  obtain ⟨k0, k1⟩ := tok_at hat hx
  have HX := Lib.hid hx
  have HAT := Lib.hid hat
  have HN := Lib.hid hn
  obtain ⟨kd, tx, iv, pl⟩ := x
  dsimp only at k0 k1
  have hi0 : (0 : Int) ≤ (i : Int) := by omega
  have hin : (i : Int) < (n : Int) := by omega
  clear hx hat hn hrd
  by_cases h4 : kd = 4
  · have m4 : ((kd : Int) != 4) = false := by rw [h4]; rfl
    cases e40 : (tx.toList == [40]) with
    | false =>
      clear h4
      go_enter Tryd.func23, Tryd.ntmps23
      go_wp2_with fail
      go_ret
      exact ⟨rfl, false, rfl, fun h => by cases h⟩
    | true =>
      have HO : Hid (∃ x, o[i]? = some x ∧ opZ x = true) := Lib.hid ⟨_, HX.out, by
        show (decide (kd = 4) && decide (tx.data.toList = [40])) = true
        rw [decide_eq_true h4, decide_eq_true (lit_of e40)]; rfl⟩
      clear h4
      by_cases hz : i = 0
      · have hz1 : ((i : Int) == 0) = true := by rw [hz]; rfl
        clear hz
        go_enter Tryd.func23, Tryd.ntmps23
        go_wp2_with fail
        go_ret
        exact ⟨rfl, _, rfl, fun _ => HO.out⟩
      · have hz1 : ((i : Int) == 0) = false := by rw [beq_eq_false_iff_ne]; omega
        obtain ⟨j, hj⟩ : ∃ j, i = j + 1 := ⟨i - 1, by omega⟩
        obtain ⟨y, hy⟩ : ∃ y, o[j]? = some y := ⟨_, List.getElem?_eq_getElem (by have := HN.out; omega)⟩
        obtain ⟨g0, g1⟩ := tok_at HAT.out hy
        obtain ⟨kd2, tx2, iv2, pl2⟩ := y
        dsimp only at g0 g1
        have hj1 : (i : Int) - 1 = (j : Int) := by omega
        have hj0 : (0 : Int) ≤ (j : Int) := by omega
        have hjn : (j : Int) < (n : Int) := by omega
        have HJ := Lib.hid hj
        clear hy hz hj
        by_cases h1 : kd2 = 1
        · have m1 : ((kd2 : Int) != 1) = false := by rw [h1]; rfl
          clear h1
          cases f0 : (tx2.toList == [108, 101, 110]) with
          | true =>
            go_enter Tryd.func23, Tryd.ntmps23
            go_wp2_with fail
            go_ret
            exact ⟨rfl, _, rfl, fun _ => HO.out⟩
          | false =>
            cases f1 : (tx2.toList == [110, 117, 109]) with
            | true =>
              go_enter Tryd.func23, Tryd.ntmps23
              go_wp2_with fail
              go_ret
              exact ⟨rfl, _, rfl, fun _ => HO.out⟩
            | false =>
              cases f2 : (tx2.toList == [114, 101]) with
              | true =>
                go_enter Tryd.func23, Tryd.ntmps23
                go_wp2_with fail
                go_ret
                exact ⟨rfl, _, rfl, fun _ => HO.out⟩
              | false =>
                cases f3 : (tx2.toList == [105, 109]) with
                | true =>
                  go_enter Tryd.func23, Tryd.ntmps23
                  go_wp2_with fail
                  go_ret
                  exact ⟨rfl, _, rfl, fun _ => HO.out⟩
                | false =>
                  cases f4 : (tx2.toList == [99, 111, 110, 106]) with
                  | true =>
                    go_enter Tryd.func23, Tryd.ntmps23
                    go_wp2_with fail
                    go_ret
                    exact ⟨rfl, _, rfl, fun _ => HO.out⟩
                  | false =>
                    cases f5 : (tx2.toList == [116, 105, 109, 101, 114]) with
                    | true =>
                      go_enter Tryd.func23, Tryd.ntmps23
                      go_wp2_with fail
                      go_ret
                      exact ⟨rfl, _, rfl, fun _ => HO.out⟩
                    | false =>
                      by_cases hz2 : i = 1
                      · have hd1 : decide ((1 : Int) < (i : Int)) = false := decide_eq_false (by omega)
                        clear hz2 HJ
                        go_enter Tryd.func23, Tryd.ntmps23
                        go_wp2_with fail
                        go_ret
                        exact ⟨rfl, _, rfl, fun _ => HO.out⟩
                      · have hd1 : decide ((1 : Int) < (i : Int)) = true := decide_eq_true (by have := HJ.out; omega)
                        obtain ⟨q, hq⟩ : ∃ q, i = q + 2 := ⟨i - 2, by have := HJ.out; omega⟩
                        obtain ⟨z, hz⟩ : ∃ z, o[q]? = some z := ⟨_, List.getElem?_eq_getElem (by have := HN.out; omega)⟩
                        obtain ⟨u0, u1⟩ := tok_at HAT.out hz
                        obtain ⟨kd3, tx3, iv3, pl3⟩ := z
                        dsimp only at u0 u1
                        have hq1 : (i : Int) - 2 = (q : Int) := by omega
                        have hq0 : (0 : Int) ≤ (q : Int) := by omega
                        have hqn : (q : Int) < (n : Int) := by omega
                        clear hz hz2 hq HJ
                        by_cases h13 : kd3 = 1
                        · have m13 : ((kd3 : Int) == 1) = true := by rw [h13]; rfl
                          clear h13
                          cases g5 : (tx3.toList == [99, 97, 108, 108]) with
                          | true =>
                            go_enter Tryd.func23, Tryd.ntmps23
                            go_wp2_with fail
                            go_ret
                            exact ⟨rfl, _, rfl, fun _ => HO.out⟩
                          | false =>
                            cases g6 : (tx3.toList == [99, 104, 105, 108, 100]) with
                            | true =>
                              go_enter Tryd.func23, Tryd.ntmps23
                              go_wp2_with fail
                              go_ret
                              exact ⟨rfl, _, rfl, fun _ => HO.out⟩
                            | false =>
                              cases g7 : (tx3.toList == [102, 108, 111, 119]) with
                              | true =>
                                go_enter Tryd.func23, Tryd.ntmps23
                                go_wp2_with fail
                                go_ret
                                exact ⟨rfl, _, rfl, fun _ => HO.out⟩
                              | false =>
                                go_enter Tryd.func23, Tryd.ntmps23
                                go_wp2_with fail
                                go_ret
                                exact ⟨rfl, _, rfl, fun _ => HO.out⟩
                        · have m13 : ((kd3 : Int) == 1) = false := by rw [beq_eq_false_iff_ne]; omega
                          clear h13
                          go_enter Tryd.func23, Tryd.ntmps23
                          go_wp2_with fail
                          go_ret
                          exact ⟨rfl, _, rfl, fun _ => HO.out⟩
        · have m1 : ((kd2 : Int) != 1) = true := by rw [bne_iff_ne]; omega
          clear h1
          go_enter Tryd.func23, Tryd.ntmps23
          go_wp2_with fail
          go_ret
          exact ⟨rfl, _, rfl, fun _ => HO.out⟩
  · have m4 : ((kd : Int) != 4) = true := by rw [bne_iff_ne]; omega
    clear h4
    go_enter Tryd.func23, Tryd.ntmps23
    go_wp2_with fail
    go_ret
    exact ⟨rfl, false, rfl, fun h => by cases h⟩
set_option maxHeartbeats 8000000 in
theorem closes_any (A : Option Addr) (c n i : Nat) (o : List Tz) (w : World) (hrd : RdZ w A o) (hn : n = o.length) (hi : i < n) (hn9 : n ≤ 100000) {x0 : Tz} (hx0 : o[i]? = some x0) (ho0 : opZ x0 = true) : Calls Tryd.prog 24 #[.slice A n c, .int .i64 (i : Nat)] w fun e w' => e = .returned (.int .i64 ((cls 0 i (o.drop i) : Nat) : Int)) ∧ w' = w := by
  obtain ⟨b, off, rfl, hb, hat⟩ : ∃ b off, A = some ⟨b, off, none⟩ ∧ b < w.heap.size ∧ ∀ i x, o[i]? = some x → ∀ j v, (zcell x)[j]? = some v → w.cell? ⟨b, off + i * 4 + j, none⟩ = some v := hrd.resolve_left (fun h => by rw [h] at hn; simp at hn; omega)
  obtain ⟨R, hR⟩ : ∃ R, R = cls 0 i (o.drop i) := ⟨_, rfl⟩
  rw [← hR]
  have HH := Lib.hid (And.intro hat (And.intro hn (And.intro hR (And.intro hx0 ho0))))
  clear hat hn hR hx0 ho0 hrd
  go_enter Tryd.func24, Tryd.ntmps24
  go_wp2_with fail
  go_loopw [5, 6] (fun s5 s6 wr => wr = w ∧ ∃ k d : Nat, s5 = .int .i64 (d : Nat) ∧ s6 = .int .i64 (k : Nat) ∧ i ≤ k ∧ k ≤ n ∧ d ≤ k ∧ cls d k (o.drop k) = R ∧ (k = i ∨ 1 ≤ d)) (fun _ s6 _ => n - (intOf s6).toNat)
  case atStart => exact ⟨rfl, i, 0, rfl, rfl, by omega, by omega, by omega, HH.out.2.2.1.symm, .inl rfl⟩
  case round =>
    obtain ⟨rfl, k, d, rfl, rfl, hik, hk, hdk, hc, hkd⟩ := hrel
    by_cases hlt : k < n
    · have hd : decide ((k : Int) < (n : Int)) = true := decide_eq_true (by omega)
      obtain ⟨x, hx⟩ : ∃ x, o[k]? = some x := ⟨_, List.getElem?_eq_getElem (by have := HH.out.2.1; omega)⟩
      obtain ⟨k0, k1⟩ := tok_at HH.out.1 hx
      have hdr : o.drop k = x :: o.drop (k + 1) := by
        obtain ⟨h1, h2⟩ := List.getElem?_eq_some_iff.1 hx
        rw [← h2]; exact List.drop_eq_getElem_cons h1
      rw [hdr, cls] at hc
      have HC := Lib.hid (And.intro hc (And.intro hx hkd))
      have hk0 : (0 : Int) ≤ (k : Int) := by omega
      have hkn : (k : Int) < (n : Int) := by omega
      have hb2 : b < wr.heap.size := hb
      obtain ⟨kd, tx, iv, pl⟩ := x
      dsimp only at k0 k1
      clear hc hx hkd hdr
      by_cases h4 : kd = 4
      · have m4 : ((kd : Int) == 4) = true := by rw [h4]; rfl
        cases e40 : (tx.toList == [40]) with
        | true =>
          have e41 : (tx.toList == [41]) = false := lit_ne (s := [41]) (by rw [lit_of (s := [40]) e40]; decide)
          have HO : Hid (opZ ⟨kd, tx, iv, pl⟩ = true) := Lib.hid (by
            show (decide (kd = 4) && decide (tx.data.toList = [40])) = true
            rw [decide_eq_true h4, decide_eq_true (lit_of (s := [40]) e40)]; rfl)
          clear h4
          go_wp2_with fail
          go_roundw
          case rel =>
            refine ⟨trivial, k + 1, d + 1, by go_num, by go_num, by omega, by omega, by omega, ?_, .inr (by omega)⟩
            have := HC.out.1
            rw [HO.out, if_pos rfl] at this
            exact this
          case measure => simp [intOf]; omega
        | false =>
          have HO : Hid (opZ ⟨kd, tx, iv, pl⟩ = false) := Lib.hid (by
            show (decide (kd = 4) && decide (tx.data.toList = [40])) = false
            rw [decide_eq_false (p := tx.data.toList = [40]) (lit_no e40), Bool.and_false])
          have hki : k ≠ i := by
            intro h
            subst h
            have h1 := HH.out.2.2.2
            rw [HC.out.2.1] at h1
            have h2 := Option.some.inj h1.1
            rw [← h2, HO.out] at h1
            cases h1.2
          have hd1 : 1 ≤ d := HC.out.2.2.resolve_left hki
          cases e41 : (tx.toList == [41]) with
          | true =>
            have HL : Hid (clZ ⟨kd, tx, iv, pl⟩ = true) := Lib.hid (by
              show (decide (kd = 4) && decide (tx.data.toList = [41])) = true
              rw [decide_eq_true h4, decide_eq_true (lit_of (s := [41]) e41)]; rfl)
            obtain ⟨d0, hd0⟩ : ∃ d0, d = d0 + 1 := ⟨d - 1, by omega⟩
            have hdm : (d : Int) - 1 = (d0 : Int) := by omega
            have HD := Lib.hid hd0
            clear h4 hki hd1 hd0
            by_cases h1 : d0 = 0
            · subst h1
              have HR : Hid (R = k) := Lib.hid (by
                have := HC.out.1
                rw [HO.out, if_neg (by simp), HL.out, if_pos rfl, if_pos (by have := HD.out; omega)] at this
                exact this.symm)
              go_wp2_with fail
              go_ret
              exact ⟨by rw [HR.out]; rfl, rfl⟩
            · have hne : ((d0 : Int) == 0) = false := by rw [beq_eq_false_iff_ne]; omega
              go_wp2_with fail
              go_roundw
              case rel =>
                refine ⟨trivial, k + 1, d0, rfl, by go_num, by omega, by omega, by have := HD.out; omega, ?_, .inr (by omega)⟩
                have := HC.out.1
                rw [HO.out, if_neg (by simp), HL.out, if_pos rfl, if_neg (by have := HD.out; omega), show d - 1 = d0 by have := HD.out; omega] at this
                exact this
              case measure => simp [intOf]; omega
          | false =>
            have HL : Hid (clZ ⟨kd, tx, iv, pl⟩ = false) := Lib.hid (by
              show (decide (kd = 4) && decide (tx.data.toList = [41])) = false
              rw [decide_eq_false (p := tx.data.toList = [41]) (lit_no e41), Bool.and_false])
            clear h4 hki
            go_wp2_with fail
            go_roundw
            case rel =>
              refine ⟨trivial, k + 1, d, rfl, by go_num, by omega, by omega, by omega, ?_, .inr hd1⟩
              have := HC.out.1
              rw [HO.out, if_neg (by simp), HL.out, if_neg (by simp)] at this
              exact this
            case measure => simp [intOf]; omega
      · have m4 : ((kd : Int) == 4) = false := by rw [beq_eq_false_iff_ne]; omega
        have HO : Hid (opZ ⟨kd, tx, iv, pl⟩ = false ∧ clZ ⟨kd, tx, iv, pl⟩ = false) := Lib.hid (by
          constructor
          · show (decide (kd = 4) && _) = false
            rw [decide_eq_false h4]; rfl
          · show (decide (kd = 4) && _) = false
            rw [decide_eq_false h4]; rfl)
        have hki : k ≠ i := by
          intro h
          subst h
          have h1 := HH.out.2.2.2
          rw [HC.out.2.1] at h1
          have h2 := Option.some.inj h1.1
          rw [← h2, HO.out.1] at h1
          cases h1.2
        have hd1 : 1 ≤ d := HC.out.2.2.resolve_left hki
        clear h4 hki
        go_wp2_with fail
        go_roundw
        case rel =>
          refine ⟨trivial, k + 1, d, rfl, by go_num, by omega, by omega, by omega, ?_, .inr hd1⟩
          have := HC.out.1
          rw [HO.out.1, if_neg (by simp), HO.out.2, if_neg (by simp)] at this
          exact this
        case measure => simp [intOf]; omega
    · have hd : decide ((k : Int) < (n : Int)) = false := decide_eq_false (by omega)
      have hkn : k = n := by omega
      have HR : Hid (R = n) := Lib.hid (by
        rw [List.drop_of_length_le (by have := HH.out.2.1; omega), cls] at hc
        rw [← hc, hkn])
      clear hc hkd
      go_wp2_with fail
      go_ret
      exact ⟨by rw [HR.out]; rfl, rfl⟩
end Go.Proofs.YtbcadlocldplfaaDoor
namespace Go.Proofs.YtbcadlocldplfaaDoor
set_option maxRecDepth 100000
open Go.RowKit T8
theorem rdz_sub {w : World} {b off : Nat} {o : List Tz} (h : RdZ w (some ⟨b, off, none⟩) o) (lo hi : Nat) : RdZ w (some ⟨b, off + lo * 4, none⟩) ((o.take hi).drop lo) := by
  rcases h with h | ⟨b2, off2, h1, h2, h3⟩
  · left; rw [h]; simp
  · obtain ⟨rfl, rfl⟩ : b = b2 ∧ off = off2 := by injection h1 with h1; injection h1 with h1 h2 h3; exact ⟨h1, h2⟩
    refine .inr ⟨b, off + lo * 4, rfl, h2, fun i x hx j v hv => ?_⟩
    rw [List.getElem?_drop] at hx
    have hx2 : o[lo + i]? = some x := by
      rw [List.getElem?_take] at hx
      split at hx
      · exact hx
      · cases hx
    have := h3 (lo + i) x hx2 j v hv
    rw [show off + lo * 4 + i * 4 + j = off + (lo + i) * 4 + j by omega]
    exact this
section
variable {w : World} {A : Option Addr} {n c : Nat} {o : List Tz} (h : RdZ w A o) (hn : n = o.length) (hc : n ≤ c)
include h hn hc
theorem slice_lh (lo hi : Nat) (h1 : lo ≤ hi) (h2 : hi ≤ n) : ∃ A' c', (∀ W, (Instr.sliceAt 30 (.slice A n c) (some (.int .i64 (lo : Nat))) (some (.int .i64 (hi : Nat))) none).run Tryd.prog W = .ok (.slice A' (hi - lo) c') W) ∧ RdZ w A' ((o.take hi).drop lo) := by
  refine ⟨if c = lo then A else A.map (·.add (lo * 4)), c - lo, fun W => ?_, ?_⟩
  · have hu : Tryd.prog.underlying 30 = some (.slice (Tryd.prog.elem 30)) := by kernel_rfl
    have hz : (sizeOf (Tryd.prog.elem 30)).run Tryd.prog W = .ok 4 W := by kernel_rfl
    rw [run_sliceAt_slice W 30 _ _ _ _ hu, run_slice_lh W 30 A n c hu .i64 .i64 lo hi (by omega) (by omega) (by omega), hz]
    show Result.ok (sliced A _ _ _ _) W = _
    unfold sliced
    rw [Int.toNat_natCast, Int.toNat_natCast]
  · by_cases he : (o.take hi).drop lo = []
    · exact .inl he
    · have hcl : ¬ c = lo := by
        intro hcl
        refine he (List.drop_of_length_le ?_)
        rw [List.length_take]; omega
      rw [if_neg hcl]
      rcases id h with h' | ⟨b, off, rfl, _⟩
      · exact absurd (by rw [h']; simp) he
      · rw [Option.map_some, addr_add]
        exact rdz_sub h lo hi
theorem slice_h (hi : Nat) (h2 : hi ≤ n) : ∃ A' c', (∀ W, (Instr.sliceAt 30 (.slice A n c) none (some (.int .i64 (hi : Nat))) none).run Tryd.prog W = .ok (.slice A' hi c') W) ∧ RdZ w A' (o.take hi) := by
  refine ⟨if c = 0 then A else A.map (·.add (0 * 4)), c, fun W => ?_, ?_⟩
  · have hu : Tryd.prog.underlying 30 = some (.slice (Tryd.prog.elem 30)) := by kernel_rfl
    have hz : (sizeOf (Tryd.prog.elem 30)).run Tryd.prog W = .ok 4 W := by kernel_rfl
    rw [run_sliceAt_slice W 30 _ _ _ _ hu, run_slice_h W 30 A n c hu .i64 hi (by omega) (by omega), hz]
    show Result.ok (sliced A _ _ _ _) W = _
    unfold sliced
    rw [Int.toNat_natCast]
    rfl
  · by_cases he : o.take hi = []
    · exact .inl he
    · have hcl : ¬ c = 0 := by
        intro hcl
        refine he (List.eq_nil_of_length_eq_zero ?_)
        rw [List.length_take]; omega
      rw [if_neg hcl]
      rcases id h with h' | ⟨b, off, rfl, _⟩
      · exact absurd (by rw [h']; simp) he
      · rw [Option.map_some, addr_add]
        have := rdz_sub h 0 hi
        rwa [List.drop_zero] at this
theorem slice_l (lo : Nat) (h2 : lo ≤ n) : ∃ A' c', (∀ W, (Instr.sliceAt 30 (.slice A n c) (some (.int .i64 (lo : Nat))) none none).run Tryd.prog W = .ok (.slice A' (n - lo) c') W) ∧ RdZ w A' (o.drop lo) := by
  refine ⟨if c = lo then A else A.map (·.add (lo * 4)), c - lo, fun W => ?_, ?_⟩
  · have hu : Tryd.prog.underlying 30 = some (.slice (Tryd.prog.elem 30)) := by kernel_rfl
    have hz : (sizeOf (Tryd.prog.elem 30)).run Tryd.prog W = .ok 4 W := by kernel_rfl
    rw [run_sliceAt_slice W 30 _ _ _ _ hu, run_slice_l W 30 A n c hu .i64 lo (by omega) (by omega), hz]
    show Result.ok (sliced A _ _ _ _) W = _
    unfold sliced
    rw [Int.toNat_natCast]
  · by_cases he : o.drop lo = []
    · exact .inl he
    · have hcl : ¬ c = lo := by
        intro hcl
        refine he (List.drop_of_length_le ?_)
        omega
      rw [if_neg hcl]
      rcases id h with h' | ⟨b, off, rfl, _⟩
      · exact absurd (by rw [h']; simp) he
      · rw [Option.map_some, addr_add]
        have := rdz_sub h lo o.length
        rwa [List.take_length] at this
end
set_option maxHeartbeats 16000000 in
theorem showLeast_walk (A : Option Addr) (c : Nat) (l : List Tw) (w : World) (hok : ∀ x ∈ l, TwOk x) (hrw : RdW w A l) (hc : l.length ≤ c ∧ c ≤ 9223372036854775807) (htab : Tab w) :
    Calls Tryd.prog 7 #[.slice A l.length c] w fun e w' => e = .returned (.bool true) ∧ Below w.heap.size w w' := by
  have hrd := rdl_of hrw
  have HH := Lib.hid (And.intro hok (And.intro hrd (And.intro hc.1 htab)))
  have HWK := Lib.hid (fun W (hb : Below w.heap.size w W) => wakes10_any W (T7.tab_below htab hb))
  obtain ⟨n, hn⟩ : ∃ n, n = l.length := ⟨_, rfl⟩
  have HN := Lib.hid hn
  have hn9 : n ≤ 9223372036854775807 := by omega
  rw [← hn]
  by_cases hbig : 150 < n
  · have hd : decide ((150 : Int) < (n : Int)) = true := decide_eq_true (by omega)
    clear hok hrw hrd hc htab hn
    go_enter Tryd.func7, Tryd.ntmps7
    go_wp2_with fail
    refine (HWK.out w (Below.refl _ _)).mono ?_
    rintro e w1 ⟨rfl, hb1⟩
    have HB := Lib.hid hb1
    clear hb1
    go_wp2_with fail
    go_ret
    exact ⟨rfl, HB.out⟩
  · have hd : decide ((150 : Int) < (n : Int)) = false := decide_eq_false (by omega)
    have HTK := Lib.hid (tokens_any A c l w hok hrd hc.1 (by omega))
    rw [← hn] at HTK
    clear hok hrw hrd hc htab hn
    go_enter Tryd.func7, Tryd.ntmps7
    go_wp2_with fail
    refine HTK.out.mono ?_
    rintro e w1 ⟨A1, n1, c1, o, er, rfl, hn1, ho1, hb1, hr1⟩
    have H1 := Lib.hid (And.intro hn1 (And.intro ho1 (And.intro hb1 hr1)))
    have hn19 : n1 ≤ 16400 := by rw [hn1]; exact hr1.few
    have hnc1 : n1 ≤ c1 := by
      obtain ⟨A2, c2, h2, h3⟩ := own_form ho1
      injection h2 with h4 h5 h6
      omega
    clear hn1 ho1 hb1 hr1 HTK
    by_cases hz : er = 0
    · subst hz
      have hT : ∃ T, Right l T ∧ (chk l).2 = 0 ∧ Kind T ∧ o = shown T := by
        rcases H1.out.2.2.2 with ⟨g1, g2, _⟩ | ⟨T, g1, g2, ⟨g3, _, g4⟩ | ⟨_, g4, _⟩⟩
        · exact absurd g2.symm g1
        · exact ⟨T, g1, g2, g3, g4⟩
        · cases g4
      obtain ⟨T, hR, hC0, hK, hO⟩ := hT
      have HT := Lib.hid (And.intro hR (And.intro hC0 (And.intro hK hO)))
      obtain ⟨x, r, hx, hop⟩ := head_of hR.2
      have hne : l ≠ [] := by rw [hx]; simp
      have hop9 : x.op < 256 := (HH.out.1 x (by rw [hx]; simp)).1
      have hnpos : 0 < n := by rw [HN.out, hx]; simp
      obtain ⟨b, off, rfl, hb, hat⟩ : ∃ b off, A = some ⟨b, off, none⟩ ∧ b < w.heap.size ∧ ∀ i x, l[i]? = some x → ∀ j v, (twcell x)[j]? = some v → w.cell? ⟨b, off + i * 4 + j, none⟩ = some v := HH.out.2.1.resolve_left hne
      have HK0 : Hid (∀ W, Below w.heap.size w W → W.cell? ⟨b, off, none⟩ = some (.int .u8 (x.op : Nat))) := Lib.hid fun W hW => (hW.cell (p := ⟨b, off, none⟩) hb).trans (by
        have := hat 0 x (by rw [hx]; rfl) 0 _ rfl
        simpa using this)
      have HGL : Hid (GL o) := Lib.hid (H1.out.2.2.2.gl HH.out.1)
      have HOP := Lib.hid hop
      obtain ⟨op, kids, iv, tx⟩ := x
      dsimp only at hop9 HOP HK0
      obtain ⟨fl, hfl⟩ : ∃ fl, fl = ((op : Int) == 1) := ⟨_, rfl⟩
      have HFL : Hid (fl = decide (opOf T = 1)) := Lib.hid (by
        have h2 : op = opOf T := HOP.out
        rw [hfl, ← h2]
        by_cases h1 : op = 1
        · rw [h1]; rfl
        · rw [decide_eq_false h1, beq_eq_false_iff_ne]; omega)
      have hfl2 := hfl.symm
      clear hR hC0 hK hO hx hne hat hop hfl
      go_wp2_with fail
      go_loopw [5] (fun s5 wr => ∃ i : Nat, s5 = .int .i64 (i : Nat) ∧ i ≤ n1 ∧ Below w.heap.size w wr ∧ wr.ownsRow w.heap.size 35 4 (.slice A1 n1 c1) n1 (rowOf zcell o)) (fun s5 _ => n1 - (intOf s5).toNat)
      case atStart => exact ⟨0, rfl, by omega, H1.out.2.2.1, H1.out.2.1⟩
      case round =>
        obtain ⟨i, rfl, hi, hbw, how⟩ := hrel
        have HW := Lib.hid (And.intro hbw how)
        have HRZ : Hid (RdZ wr A1 o) := Lib.hid (RdL.of_own zcell_len how H1.out.1)
        clear hbw how
        by_cases hlt : i < n1
        · have hd1 : decide ((i : Int) < (n1 : Int)) = true := decide_eq_true (by omega)
          go_wp2_with fail
          refine (around_any A1 c1 n1 i o wr HRZ.out H1.out.1 hlt (by omega)).mono ?_
          rintro e w3 ⟨hw3, ba, rfl, hba⟩
          rw [hw3]
          clear hw3 w3
          cases ba with
          | false =>
            clear hba
            go_wp2_with fail
            go_roundw
            case rel => exact ⟨i + 1, by go_num, by omega, HW.out.1, HW.out.2⟩
            case measure => simp [intOf]; omega
          | true =>
            obtain ⟨x0, hx0, ho0⟩ := hba rfl
            have HX0 := Lib.hid (And.intro hx0 ho0)
            clear hba hx0 ho0
            go_wp2_with fail
            refine (closes_any A1 c1 n1 i o wr HRZ.out H1.out.1 hlt (by omega) HX0.out.1 HX0.out.2).mono ?_
            rintro e w3 ⟨rfl, hw3⟩
            rw [hw3]
            clear hw3 w3
            obtain ⟨k, hk⟩ : ∃ k, k = cls 0 i (o.drop i) := ⟨_, rfl⟩
            have hcl : i < k ∧ k < n1 := by
              have h1 := shown_closes HT.out.1.1 HT.out.2.2.1 (fun x hx => (HH.out.1 x (by rw [← HT.out.1.2]; exact hx)).2.2.2.2.1) (i := i) (x := x0) (by rw [← HT.out.2.2.2]; exact HX0.out.1) HX0.out.2
              rw [← HT.out.2.2.2, ← hk, ← H1.out.1] at h1
              exact ⟨h1.1, h1.2.1⟩
            rw [← hk]
            clear hk
            obtain ⟨i1, hi1⟩ : ∃ i1, i1 = i + 1 := ⟨_, rfl⟩
            obtain ⟨k1, hk1⟩ : ∃ k1, k1 = k + 1 := ⟨_, rfl⟩
            have hI1 : (i : Int) + 1 = (i1 : Int) := by omega
            have hK1 : (k : Int) + 1 = (k1 : Int) := by omega
            obtain ⟨Aa, ca, hsa, hra⟩ := slice_h HRZ.out H1.out.1 hnc1 i (by omega)
            obtain ⟨Ab, cb, hsb, hrb⟩ := slice_lh HRZ.out H1.out.1 hnc1 i1 k (by omega) (by omega)
            obtain ⟨Ac, cc, hsc, hrc⟩ := slice_l HRZ.out H1.out.1 hnc1 k1 (by omega)
            obtain ⟨m2, hm2⟩ : ∃ m2, m2 = k - i1 := ⟨_, rfl⟩
            obtain ⟨m3, hm3⟩ : ∃ m3, m3 = n1 - k1 := ⟨_, rfl⟩
            rw [← hm2] at hsb
            rw [← hm3] at hsc
            have hne : ((k : Int) == (n1 : Int)) = false := by rw [beq_eq_false_iff_ne]; omega
            have HL : Hid (o.length = n1 ∧ i1 = i + 1 ∧ k1 = k + 1 ∧ m2 = k - i1 ∧ m3 = n1 - k1) := Lib.hid ⟨H1.out.1.symm, hi1, hk1, hm2, hm3⟩
            have HRA := Lib.hid (And.intro hra (And.intro hrb hrc))
            have hb9 : m2 ≤ 16400 ∧ m3 ≤ 16400 := by omega
            clear hi1 hk1 hm2 hm3 hra hrb hrc
            go_upto_region 15 with (at_builtin; refine wpList_app_z rfl (.tmp 46) (.tmp 49) rfl wr.heap.size 0 0 i ca none Aa [] (o.take i) rfl (World.ownsRow_nil _ _ _ _) rfl (by rw [List.length_take]; have := HL.out; omega) HRA.out.1 (by omega) (Nat.le_refl _) ?_; intro A6 c6 w6 ho6 hg6; have H6 := Lib.hid (And.intro ho6 ((Below.refl wr.heap.size wr).grown hg6 (Nat.le_refl _) (fun gg hgg => by cases hgg))); clear ho6 hg6)
            have hz6 : 0 + i = i := by omega
            rw [hz6] at H6
            try simp only [hz6]
            clear hz6
            go_upto_region 16 with (at_builtin; refine wpList_app_z rfl (.tmp 51) (.tmp 56) rfl wr.heap.size i c6 m2 cb A6 Ab ([] ++ o.take i) ((o.take k).drop i1) rfl H6.out.1 rfl (by rw [List.length_drop, List.length_take]; have := HL.out; omega) (HRA.out.2.1.below H6.out.2) (by omega) H6.out.2.size ?_; intro A7 c7 w7 ho7 hg7; have H7 := Lib.hid (And.intro ho7 (H6.out.2.grown hg7 H6.out.2.size (fun gg hgg => (World.ownsRow.lt H6.out.1 gg hgg).1))); clear ho7 hg7)
            obtain ⟨q7, hq7⟩ : ∃ q, q = i + m2 := ⟨_, rfl⟩
            rw [← hq7] at H7
            try simp only [← hq7]
            have hq79 : q7 ≤ 33000 := by omega
            have HQ7 := Lib.hid hq7
            clear hq7
            go_upto_region 17 with (at_builtin; refine wpList_app_z rfl (.tmp 58) (.tmp 62) rfl wr.heap.size q7 c7 m3 cc A7 Ac ([] ++ o.take i ++ (o.take k).drop i1) (o.drop k1) rfl H7.out.1 rfl (by rw [List.length_drop]; have := HL.out; omega) (HRA.out.2.2.below H7.out.2) (by omega) H7.out.2.size ?_; intro A8 c8 w8 ho8 hg8; have H8 := Lib.hid (And.intro ho8 (H7.out.2.grown hg8 H7.out.2.size (fun gg hgg => (World.ownsRow.lt H7.out.1 gg hgg).1))); clear ho8 hg8)
            obtain ⟨q8, hq8⟩ : ∃ q, q = q7 + m3 := ⟨_, rfl⟩
            rw [← hq8] at H8
            try simp only [← hq8]
            have hq89 : q8 ≤ 50000 := by omega
            have HQ8 := Lib.hid hq8
            clear hq8
            obtain ⟨ls, hls⟩ : ∃ ls, ls = lessL o i k := ⟨_, rfl⟩
            have hle : [] ++ o.take i ++ (o.take k).drop i1 ++ o.drop k1 = ls := by
              rw [hls]
              unfold lessL
              rw [HL.out.2.1, HL.out.2.2.1, List.nil_append]
            rw [hle] at H8
            have hq8 : q8 = ls.length := by
              rw [← hle, HQ8.out, HQ7.out]
              rw [List.nil_append, List.length_append, List.length_append, List.length_take, List.length_drop, List.length_take, List.length_drop]
              have := HL.out
              omega
            have hgl : GL ls := by rw [hls]; exact less_gl HGL.out
            have HLS := Lib.hid (And.intro hgl (And.intro hls hq8))
            have HB8 : Hid (Below w.heap.size w w8) := Lib.hid (HW.out.1.trans (H8.out.2.mono HW.out.1.size))
            have HSP : Hid (Calls Tryd.prog 21 #[.slice A8 q8 c8] w8 (T7.SpellPost w8 (ls.map cv))) := Lib.hid (by
              have := T7.spell_any A8 c8 (ls.map cv) w8 (rd_cv H8.out.1 hq8) (by rw [List.length_map]; omega) (gl_tz hgl) (T7.tab_below HH.out.2.2.2 HB8.out)
              rwa [List.length_map, ← hq8] at this)
            clear hle hq8 hls H6 H7
            go_wp2_with fail
            refine HSP.out.mono ?_
            rintro e w9 ⟨rfl, hb9⟩
            have HB9 := Lib.hid (HB8.out.trans (hb9.mono HB8.out.size))
            have HO9 : Hid (w9.ownsRow w.heap.size 35 4 (.slice A1 n1 c1) n1 (rowOf zcell o)) := Lib.hid (own_below (own_below HW.out.2 H8.out.2) hb9)
            obtain ⟨S, hS⟩ : ∃ S, S = T7.spellL (ls.map cv) := ⟨_, rfl⟩
            have HS := Lib.hid hS
            have hse := spell_err2 hgl
            rw [← hS] at hse ⊢
            clear hS hb9 HSP hgl
            obtain ⟨ss, f⟩ := S
            dsimp only at hse ⊢
            obtain ⟨st, hst⟩ : ∃ z : ByteArray, z = ⟨ss.toArray⟩ := ⟨_, rfl⟩
            rw [← hst]
            have HSTR := Lib.hid hst
            clear hst
            rcases hse with hz | ⟨hz, _⟩
            · subst hz
              have k0 := HK0.out w9 HB9.out
              have hb9' : b < w9.heap.size := Nat.lt_of_lt_of_le hb HB9.out.size
              have HRE : Hid (Calls Tryd.prog 22 #[.string st, .bool fl] w9 (ReadPost w9 (srcT N0 fl ss))) := Lib.hid (by
                have h1 := read_any fl ss (by have h2 := spelled_len (l := ls.map cv) (by rw [← HS.out]); rw [← HS.out] at h2; dsimp only at h2; omega) w9
                rwa [← HSTR.out] at h1)
              obtain ⟨R, hR⟩ : ∃ R, R = srcT N0 fl ss := ⟨_, rfl⟩
              have HR := Lib.hid hR
              rw [← hR] at HRE
              clear hR
              obtain ⟨t2, q2, e2⟩ := R
              go_wp2_with fail
              refine HRE.out.mono ?_
              rintro e w10 ⟨A10, n10, c10, rfl, ho10, hl10, hb10⟩
              have HB10 := Lib.hid (HB9.out.trans (hb10.mono HB9.out.size))
              have HO10 : Hid (w10.ownsRow w.heap.size 35 4 (.slice A1 n1 c1) n1 (rowOf zcell o)) := Lib.hid (own_below HO9.out hb10)
              have H10 := Lib.hid ho10
              clear ho10 hl10 hb10 k0 HRE
              dsimp only
              by_cases he : e2 = 0
              · subst he
                have hdf : decide (l = t2) = false := decide_eq_false (fun hlt => by
                  have h1 := spelled_least (T := T) (wf_ok T _ HT.out.1.1) HLS.out.1 (by rw [← HS.out]) HT.out.2.2.1 (by
                    rw [HLS.out.2.1, ← HT.out.2.2.2]
                    exact less_cnt HX0.out.1 HX0.out.2 hcl.1 (by rw [← H1.out.1]; exact hcl.2)) (q := q2)
                  rw [← HFL.out, ← HS.out] at h1
                  refine h1 ?_
                  rw [HT.out.1.2, hlt]
                  exact HR.out.symm)
                have HAL : Hid (Calls Tryd.prog 11 #[.slice (some ⟨b, off, none⟩) n c, .slice A10 n10 c10] w10 fun e w' => e = .returned (.bool false) ∧ ∃ q, w' = w10.drewN q) := Lib.hid (by
                  have h1 := alike_any (some ⟨b, off, none⟩) A10 c c10 n n10 l t2 w10 (HH.out.2.1.below HB10.out) H10.out.rd HN.out H10.out.len (by omega)
                  rwa [hdf] at h1)
                clear hdf
                go_wp2_with fail
                refine HAL.out.mono ?_
                rintro e w11 ⟨rfl, nq, rfl⟩
                have HB11 : Hid (Below w.heap.size w (w10.drewN nq)) := Lib.hid (below_drewN HB10.out nq)
                have HO11 : Hid ((w10.drewN nq).ownsRow w.heap.size 35 4 (.slice A1 n1 c1) n1 (rowOf zcell o)) := Lib.hid (own_below HO10.out (below_drewN (Below.refl _ _) nq))
                generalize w10.drewN nq = w11 at *
                go_wp2_with fail
                go_roundw
                case rel => exact ⟨i1, rfl, by omega, HB11.out, HO11.out⟩
                case measure => simp [intOf]; omega
              · have hne2 : (e2 == 0) = false := by simpa using he
                clear he
                go_wp2_with fail
                go_roundw
                case rel => exact ⟨i1, rfl, by omega, HB10.out, HO10.out⟩
                case measure => simp [intOf]; omega
            · subst hz
              go_wp2_with fail
              refine (HWK.out w9 HB9.out).mono ?_
              rintro e w10 ⟨rfl, hb10⟩
              have H10 := Lib.hid (HB9.out.trans (hb10.mono HB9.out.size))
              clear hb10
              go_wp2_with fail
              go_ret
              exact ⟨rfl, H10.out⟩
        · have hd1 : decide ((i : Int) < (n1 : Int)) = false := decide_eq_false (by omega)
          go_wp2_with fail
          refine (HWK.out wr HW.out.1).mono ?_
          rintro e w10 ⟨rfl, hb10⟩
          have H10 := Lib.hid (HW.out.1.trans (hb10.mono HW.out.1.size))
          clear hb10
          go_wp2_with fail
          go_ret
          exact ⟨rfl, H10.out⟩
    · have hne : (er != 0) = true := by simpa using hz
      have hn0 : n1 = 0 := by
        rw [H1.out.1]
        rcases H1.out.2.2.2 with ⟨_, _, h⟩ | ⟨T, _, _, ⟨_, h, _⟩ | ⟨_, _, h⟩⟩
        · rw [h]; rfl
        · exact absurd h hz
        · rw [h]; rfl
      have HB1 : Hid (Below w.heap.size w w1) := Lib.hid H1.out.2.2.1
      clear H1 hz
      subst hn0
      go_wp2_with fail
      refine (HWK.out w1 HB1.out).mono ?_
      rintro e w10 ⟨rfl, hb10⟩
      have H10 := Lib.hid (HB1.out.trans (hb10.mono HB1.out.size))
      clear hb10
      go_wp2_with fail
      go_ret
      exact ⟨rfl, H10.out⟩
end Go.Proofs.YtbcadlocldplfaaDoor
