/- Plain law: how many tokens a right tree is shown as; what is shown of twigs. No program in sight. And what follows from it. -/
import Derived.Deep.QuietTactic
import Derived.BigQuiet
import Derived.Test.YtbcadlocldplfaaDoorQbi
import Derived.Test.YtbcadlocldplfaaDoorQbj
import Derived.Test.YtbcadlocldplfaaDoorQbk
import Derived.Test.YtbcadlocldplfaaDoorQbl
import Derived.Test.YtbcadlocldplfaaDoorQbo
set_option linter.unusedSimpArgs false
set_option linter.unusedVariables false
namespace Go.Proofs.YtbcadlocldplfaaDoor
open T8
def Few (a : Nat) (T : Tr) : Prop := (sh T a).length + 1 ≤ 8 * T.flat.length
theorem few_br {x : Tw} {ks : List Tr} {n : Nat} (hl : (bareS x (shs ks)).length ≤ n) (hn : n + 3 ≤ 8 * (Tr.node x ks).flat.length) {a : Nat} (ha : a ≤ 9) : Few a (.node x ks) := by
  unfold Few
  rw [sh_expr x ks ha]
  split
  · rw [List.length_cons, List.length_append, List.length_singleton]; omega
  · omega
theorem few_commas {m : Nat} : ∀ {ks : List Tr}, (∀ k ∈ ks, Few m k) → (commas m (shs ks)).length ≤ 8 * (flats ks).length
  | [], _ => by rw [shs, commas]; exact Nat.zero_le _
  | [k], h => by
    have := h k (by simp)
    unfold Few at this
    rw [shs, shs, commas, flats, List.length_append]; omega
  | k :: j :: ks, h => by
    have h1 := h k (by simp)
    have h2 := few_commas (ks := j :: ks) (m := m) (fun i hi => h i (by simp [hi]))
    unfold Few at h1
    rw [show shs (k :: j :: ks) = sh k :: sh j :: shs ks from by rw [shs, shs], commas, flats, List.length_append, List.length_cons, List.length_append]
    rw [show shs (j :: ks) = sh j :: shs ks from by rw [shs]] at h2
    omega
theorem few_all {m : Nat} : ∀ {ks : List Tr}, (∀ k ∈ ks, Few m k) → (allS m (shs ks)).length ≤ 8 * (flats ks).length
  | [], _ => by rw [shs]; exact Nat.zero_le _
  | k :: ks, h => by
    have h1 := h k (by simp)
    have h2 := few_all (ks := ks) (m := m) (fun i hi => h i (by simp [hi]))
    unfold Few at h1
    unfold allS at h2 ⊢
    rw [shs, List.flatMap_cons, List.length_append, flats, List.length_append]
    omega
theorem lis_few {o e : List UInt8} {ks : List Tr} (h : ∀ k ∈ ks, Few 1 k) : (lisS o (shs ks) e).length ≤ 8 * (flats ks).length + 2 := by
  have := few_commas h
  unfold lisS
  rw [List.length_cons, List.length_append, List.length_singleton]
  omega
theorem fl1 (k : Tr) : (flats [k]).length = k.flat.length := by simp [flats]
theorem fl2 (k j : Tr) : (flats [k, j]).length = k.flat.length + j.flat.length := by simp [flats]
theorem fl3 (k j i : Tr) : (flats [k, j, i]).length = k.flat.length + (j.flat.length + i.flat.length) := by simp [flats]
theorem fln (x : Tw) (ks : List Tr) : (Tr.node x ks).flat.length = (flats ks).length + 1 := by rw [Tr.flat, List.length_cons]
theorem shs1 (k : Tr) : shs [k] = [sh k] := by rw [shs, shs]
theorem shs2 (k j : Tr) : shs [k, j] = [sh k, sh j] := by rw [shs, shs, shs]
theorem shs3 (k j i : Tr) : shs [k, j, i] = [sh k, sh j, sh i] := by rw [shs, shs, shs, shs]
theorem mem_one {P : Tr → Prop} {k : Tr} (h : P k) : ∀ x ∈ [k], P x := by
  intro x hx
  rw [List.mem_singleton.1 hx]; exact h
theorem mem_duo {P : Tr → Prop} {k j : Tr} (h : P k) (h2 : P j) : ∀ x ∈ [k, j], P x := by
  intro x hx
  simp only [List.mem_cons, List.not_mem_nil, or_false] at hx
  rcases hx with rfl | rfl
  · exact h
  · exact h2
theorem few_any {kd : Nat} {t : Tr} (h : Rt kd t) : (kd = 0 → ∀ a, a ≤ 9 → Few a t) ∧ (kd = 1 → Few 10 t) ∧ (kd = 2 → Few 11 t) := by
  induction h with
  | @word op ho =>
    refine ⟨fun _ a ha => few_br (n := 1) ?_ (by rw [fln]; omega) ha, fun h => (by cases h), fun h => (by cases h)⟩
    rcases ho with rfl | rfl | rfl | rfl <;> exact Nat.le_refl _
  | int i => exact ⟨fun _ a ha => few_br (n := 1) (Nat.le_refl _) (by rw [fln]; omega) ha, fun h => (by cases h), fun h => (by cases h)⟩
  | text s => exact ⟨fun _ a ha => few_br (n := 1) (Nat.le_refl _) (by rw [fln]; omega) ha, fun h => (by cases h), fun h => (by cases h)⟩
  | name hs => exact ⟨fun _ a ha => few_br (n := 1) (Nat.le_refl _) (by rw [fln]; omega) ha, fun h => (by cases h), fun h => (by cases h)⟩
  | take hs => exact ⟨fun _ a ha => few_br (n := 2) (Nat.le_refl _) (by rw [fln]; omega) ha, fun h => (by cases h), fun h => (by cases h)⟩
  | @list ks h ih =>
    refine ⟨fun _ a ha => few_br (n := 8 * (flats ks).length + 2) ?_ (by rw [fln]; omega) ha, fun h => (by cases h), fun h => (by cases h)⟩
    show (lisS [91] (shs ks) [93]).length ≤ _
    exact lis_few fun k hk => (ih k hk).1 rfl 1 (by omega)
  | @call op s ks ho hs h ih =>
    refine ⟨fun _ a ha => few_br (n := 8 * (flats ks).length + 4) ?_ (by rw [fln]; omega) ha, fun h => (by cases h), fun h => (by cases h)⟩
    have h1 := lis_few (o := [40]) (e := [41]) (fun k hk => (ih k hk).1 rfl 1 (by omega))
    rcases ho with rfl | rfl
    · show (wd [99, 97, 108, 108] :: wt s :: lisS [40] (shs ks) [41]).length ≤ _
      rw [List.length_cons, List.length_cons]; omega
    · show (wd [99, 104, 105, 108, 100] :: wt s :: lisS [40] (shs ks) [41]).length ≤ _
      rw [List.length_cons, List.length_cons]; omega
  | @one op k ho h ih =>
    refine ⟨fun _ a ha => few_br (n := 8 * (flats [k]).length + 3) ?_ (by rw [fln]; omega) ha, fun h => (by cases h), fun h => (by cases h)⟩
    have h1 := lis_few (o := [40]) (e := [41]) (mem_one (ih.1 rfl 1 (by omega)))
    have e : bareS ⟨op, 1, 0, bs []⟩ (shs [k]) = oneT op :: lisS [40] (shs [k]) [41] := by rcases ho with rfl | rfl | rfl | rfl | rfl <;> rfl
    rw [e, List.length_cons]; omega
  | @num k j h h2 ih ih2 =>
    refine ⟨fun _ a ha => few_br (n := 8 * (flats [k, j]).length + 3) ?_ (by rw [fln]; omega) ha, fun h => (by cases h), fun h => (by cases h)⟩
    have h1 := lis_few (o := [40]) (e := [41]) (mem_duo (ih.1 rfl 1 (by omega)) (ih2.1 rfl 1 (by omega)))
    show (oneT 41 :: lisS [40] (shs [k, j]) [41]).length ≤ _
    rw [List.length_cons]; omega
  | @fork k h ih =>
    refine ⟨fun _ a ha => few_br (n := 8 * (flats [k]).length) ?_ (by rw [fln]; omega) ha, fun h => (by cases h), fun h => (by cases h)⟩
    have h1 := ih.2.1 rfl
    unfold Few at h1
    rw [shs1, fl1]
    show (wd [102, 111, 114, 107] :: sh k 10).length ≤ _
    rw [List.length_cons]; omega
  | @not k h ih =>
    refine ⟨fun _ a ha => few_br (n := 8 * (flats [k]).length) ?_ (by rw [fln]; omega) ha, fun h => (by cases h), fun h => (by cases h)⟩
    have h1 := ih.1 rfl 3 (by omega)
    unfold Few at h1
    rw [shs1, fl1]
    show (wd [110, 111, 116] :: sh k 3).length ≤ _
    rw [List.length_cons]; omega
  | @pre op k ho h ih =>
    refine ⟨fun _ a ha => few_br (n := 8 * (flats [k]).length) ?_ (by rw [fln]; omega) ha, fun h => (by cases h), fun h => (by cases h)⟩
    have h1 := ih.1 rfl 7 (by omega)
    unfold Few at h1
    rw [shs1, fl1]
    rcases ho with rfl | rfl | rfl
    · show (sg [45] :: sh k 7).length ≤ _
      rw [List.length_cons]; omega
    · show (wd [97, 119, 97, 105, 116] :: sh k 7).length ≤ _
      rw [List.length_cons]; omega
    · show (wd [115, 101, 116, 116, 108, 101] :: sh k 7).length ≤ _
      rw [List.length_cons]; omega
  | @at_ k j h h2 ih ih2 =>
    refine ⟨fun _ a ha => few_br (n := 8 * (flats [k, j]).length) ?_ (by rw [fln]; omega) ha, fun h => (by cases h), fun h => (by cases h)⟩
    have h1 := ih.1 rfl 8 (by omega)
    have h2 := ih2.1 rfl 1 (by omega)
    unfold Few at h1 h2
    rw [shs2, fl2]
    show (sh k 8 ++ sg [91] :: (sh j 1 ++ [sg [93]])).length ≤ _
    rw [List.length_append, List.length_cons, List.length_append, List.length_singleton]; omega
  | @cmp op k j ho h h2 ih ih2 =>
    refine ⟨fun _ a ha => few_br (n := 8 * (flats [k, j]).length) ?_ (by rw [fln]; omega) ha, fun h => (by cases h), fun h => (by cases h)⟩
    have h1 := ih.1 rfl 5 (by omega)
    have h2 := ih2.1 rfl 5 (by omega)
    unfold Few at h1 h2
    rw [shs2, fl2]
    have e : bareS ⟨op, 2, 0, bs []⟩ [sh k, sh j] = sh k 5 ++ midT op :: sh j 5 := by
      have : op = 32 ∨ op = 33 ∨ op = 34 ∨ op = 35 := by omega
      rcases this with rfl | rfl | rfl | rfl <;> rfl
    rw [e, List.length_append, List.length_cons]; omega
  | @bin op k j ho h h2 ih ih2 =>
    refine ⟨fun _ a ha => few_br (n := 8 * (flats [k, j]).length) ?_ (by rw [fln]; omega) ha, fun h => (by cases h), fun h => (by cases h)⟩
    have hw : width op ≤ 6 := by
      have : op = 30 ∨ op = 31 ∨ op = 36 ∨ op = 37 ∨ op = 38 ∨ op = 39 ∨ op = 40 := by omega
      rcases this with rfl | rfl | rfl | rfl | rfl | rfl | rfl <;> decide
    have h1 := ih.1 rfl (width op) (by omega)
    have h2 := ih2.1 rfl (width op + 1) (by omega)
    unfold Few at h1 h2
    rw [shs2, fl2]
    have e : bareS ⟨op, 2, 0, bs []⟩ [sh k, sh j] = sh k (width op) ++ midT op :: sh j (width op + 1) := by
      have : op = 30 ∨ op = 31 ∨ op = 36 ∨ op = 37 ∨ op = 38 ∨ op = 39 ∨ op = 40 := by omega
      rcases this with rfl | rfl | rfl | rfl | rfl | rfl | rfl <;> rfl
    rw [e, List.length_append, List.length_cons]; omega
  | @block ks h ih =>
    refine ⟨fun h => (by cases h), fun _ => ?_, fun h => (by cases h)⟩
    have h1 := few_all (m := 11) (fun k hk => (ih k hk).2.2 rfl)
    unfold Few
    rw [sh_node, fln]
    show (blockS (shs ks)).length + 1 ≤ _
    unfold blockS
    rw [List.length_cons, List.length_append, List.length_singleton]; omega
  | @put op s k ho hs h ih =>
    refine ⟨fun h => (by cases h), fun h => (by cases h), fun _ => ?_⟩
    have h1 := ih.1 rfl 1 (by omega)
    unfold Few at h1 ⊢
    rw [sh_node, fln, shs1, fl1]
    rcases ho with rfl | rfl
    · show (wd [108, 101, 116] :: wt s :: sg [61] :: sh k 1).length + 1 ≤ _
      rw [List.length_cons, List.length_cons, List.length_cons]; omega
    · show (wt s :: sg [61] :: sh k 1).length + 1 ≤ _
      rw [List.length_cons, List.length_cons]; omega
  | @if2 k j h h2 ih ih2 =>
    refine ⟨fun h => (by cases h), fun h => (by cases h), fun _ => ?_⟩
    have h1 := ih.1 rfl 1 (by omega)
    have h2 := ih2.2.1 rfl
    unfold Few at h1 h2 ⊢
    rw [sh_node, fln, shs2, fl2]
    show (wd [105, 102] :: (sh k 1 ++ (sh j 10 ++ []))).length + 1 ≤ _
    rw [List.length_cons, List.length_append, List.length_append, List.length_nil]; omega
  | @if3 k j i h h2 h3 ih ih2 ih3 =>
    refine ⟨fun h => (by cases h), fun h => (by cases h), fun _ => ?_⟩
    have h1 := ih.1 rfl 1 (by omega)
    have h2 := ih2.2.1 rfl
    have h3 := ih3.2.1 rfl
    unfold Few at h1 h2 h3 ⊢
    rw [sh_node, fln, shs3, fl3]
    show (wd [105, 102] :: (sh k 1 ++ (sh j 10 ++ wd [101, 108, 115, 101] :: sh i 10))).length + 1 ≤ _
    rw [List.length_cons, List.length_append, List.length_append, List.length_cons]; omega
  | @while_ k j h h2 ih ih2 =>
    refine ⟨fun h => (by cases h), fun h => (by cases h), fun _ => ?_⟩
    have h1 := ih.1 rfl 1 (by omega)
    have h2 := ih2.2.1 rfl
    unfold Few at h1 h2 ⊢
    rw [sh_node, fln, shs2, fl2]
    show (wd [119, 104, 105, 108, 101] :: (sh k 1 ++ sh j 10)).length + 1 ≤ _
    rw [List.length_cons, List.length_append]; omega
  | @do_ op k ho h ih =>
    refine ⟨fun h => (by cases h), fun h => (by cases h), fun _ => ?_⟩
    have h1 := ih.1 rfl 1 (by omega)
    unfold Few at h1 ⊢
    rw [sh_node, fln, shs1, fl1]
    have : op = 8 ∨ op = 9 ∨ op = 10 ∨ op = 11 := by omega
    rcases this with rfl | rfl | rfl | rfl
    · show (wd [114, 101, 116, 117, 114, 110] :: sh k 1).length + 1 ≤ _
      rw [List.length_cons]; omega
    · show (wd [102, 97, 105, 108] :: sh k 1).length + 1 ≤ _
      rw [List.length_cons]; omega
    · show (wd [115, 108, 101, 101, 112] :: sh k 1).length + 1 ≤ _
      rw [List.length_cons]; omega
    · show (wd [100, 111] :: sh k 1).length + 1 ≤ _
      rw [List.length_cons]; omega
def Kind (T : Tr) : Prop := opOf T = 1 ∨ exprB (opOf T) = true
theorem few_shown {T : Tr} {may : Nat → Bool} (h : T.ok may) (hk : Kind T) : (shown T).length + 1 ≤ 8 * T.flat.length + 8 := by
  have hg := rt_of T may h
  obtain ⟨x, ks⟩ := T
  unfold shown
  rcases hk with hk | hk
  · have hk1 : x.op = 1 := hk
    dsimp only
    rw [if_pos hk1]
    obtain ⟨s, ss, b, h1, h2, h3, h4⟩ := hg.2.2.2.2 hk
    rw [h4, sh_node]
    show (flowS _ _).length + 1 ≤ _
    unfold flowS
    have e1 : shs (ss.map nameT ++ [b]) = shs (ss.map nameT) ++ [sh b] := by rw [shs_map, shs_map, List.map_append]; rfl
    have e2 : nthS (shs (ss.map nameT) ++ [sh b]) ((shs (ss.map nameT) ++ [sh b]).length - 1) 10 = sh b 10 := by
      unfold nthS
      rw [List.length_append, List.length_singleton, Nat.add_sub_cancel, List.getElem?_append_right (Nat.le_refl _), Nat.sub_self]
      rfl
    rw [e1, List.dropLast_concat, e2, fln, flats_append, List.length_append, fl1]
    have hn : ∀ k ∈ ss.map nameT, Few 12 k := by
      intro k hk
      obtain ⟨s, _, rfl⟩ := List.mem_map.1 hk
      unfold Few nameT
      rw [sh_node]
      show 1 + 1 ≤ _
      rw [fln]; omega
    have h5 := few_commas hn
    have h6 := (few_any h3).2.1 rfl
    unfold Few at h6
    simp only [List.length_cons, List.length_append]
    omega
  · have hk1 : x.op ≠ 1 := by
      intro he
      have hk2 : exprB x.op = true := hk
      rw [he] at hk2
      cases hk2
    dsimp only
    rw [if_neg hk1]
    have h6 := (few_any (hg.1 hk)).1 rfl 1 (by omega)
    unfold Few at h6
    omega
end Go.Proofs.YtbcadlocldplfaaDoor
namespace Go.Proofs.YtbcadlocldplfaaDoor
set_option maxRecDepth 100000
open Go.RowKit T8
def ShowR (l : List Tw) (o : List Tz) (er : Int) : Prop :=
  ((chk l).2 ≠ 0 ∧ er = (chk l).2 ∧ o = []) ∨ ∃ T, Right l T ∧ (chk l).2 = 0 ∧ ((Kind T ∧ er = 0 ∧ o = shown T) ∨ (¬ Kind T ∧ er = 3 ∧ o = []))
theorem right_one {l : List Tw} {T U : Tr} (h : Right l T) (h2 : Right l U) : T = U :=
  (wf_same T U [] [] (wf_ok T _ h.1) (wf_ok U _ h2.1) (by rw [List.append_nil, List.append_nil, h.2, h2.2])).1
theorem ShowR.one {l : List Tw} {o o2 : List Tz} {er er2 : Int} (h : ShowR l o er) (h2 : ShowR l o2 er2) : o = o2 ∧ er = er2 := by
  rcases h with ⟨a1, a2, a3⟩ | ⟨T, a1, a2, a3⟩
  · rcases h2 with ⟨b1, b2, b3⟩ | ⟨U, b1, b2, b3⟩
    · exact ⟨a3.trans b3.symm, a2.trans b2.symm⟩
    · exact absurd b2 a1
  · rcases h2 with ⟨b1, b2, b3⟩ | ⟨U, b1, b2, b3⟩
    · exact absurd a2 b1
    · obtain rfl := right_one a1 b1
      rcases a3 with ⟨c1, c2, c3⟩ | ⟨c1, c2, c3⟩ <;> rcases b3 with ⟨d1, d2, d3⟩ | ⟨d1, d2, d3⟩
      · exact ⟨c3.trans d3.symm, c2.trans d2.symm⟩
      · exact absurd c1 d1
      · exact absurd d1 c1
      · exact ⟨c3.trans d3.symm, c2.trans d2.symm⟩
theorem ShowR.few {l : List Tw} {o : List Tz} {er : Int} (h : ShowR l o er) : o.length ≤ 16400 := by
  rcases h with ⟨_, _, h⟩ | ⟨T, h1, h2, ⟨h3, _, h4⟩ | ⟨_, _, h4⟩⟩
  · rw [h]; exact Nat.zero_le _
  · rw [h4]
    have h5 := few_shown h1.1 h3
    have h6 := (chk_fine.1 h2).1
    rw [h1.2] at h5
    omega
  · rw [h4]; exact Nat.zero_le _
def TokPost (w : World) (l : List Tw) (e : Ending) (w' : World) : Prop :=
  ∃ A n c o er, e = .returned (.tuple #[.slice A n c, .int .i64 er]) ∧ n = o.length ∧ w'.ownsRow w.heap.size 35 4 (.slice A n c) n (rowOf zcell o) ∧ Below w.heap.size w w' ∧ ShowR l o er
theorem head_of {l : List Tw} {T : Tr} (h : T.flat = l) : ∃ x r, l = x :: r ∧ x.op = opOf T := by
  obtain ⟨x, ks⟩ := T
  exact ⟨x, flats ks, by rw [← h, Tr.flat], rfl⟩
theorem wrm_new {w : World} {A : Option Addr} {c : Nat} {l : List Tw} (h : RdL twcell 4 w A l) (hc : l.length ≤ c) (hA : ∀ a, A = some a → a.block < w.heap.size) : WrM (w.alloc (.cells #[.slice A l.length c, .slice none 0 0] 53)) w.heap.size l [] := by
  refine ⟨A, c, none, 0, Blk.new w 53 _, h.chg (T := fun _ => False) (.of_below ((Below.refl _ _).alloc (Nat.le_refl _) _)) (fun _ _ _ h => h.elim), hc, hA, ?_⟩
  exact World.ownsRow_nil _ _ _ _
set_option maxHeartbeats 8000000 in
theorem tokens_any (A : Option Addr) (c : Nat) (l : List Tw) (w : World) (hok : ∀ x ∈ l, TwOk x) (hrd : RdL twcell 4 w A l) (hc : l.length ≤ c) (hlen : l.length ≤ 100000) :
    Calls Tryd.prog 12 #[.slice A l.length c] w (TokPost w l) := by
  have hA : ∀ a, A = some a → l ≠ [] → a.block < w.heap.size := by
    intro a ha hl
    rcases hrd with h | ⟨b, off, h1, h2, _⟩
    · exact absurd h hl
    · rw [ha] at h1
      obtain rfl := Option.some.inj h1
      exact h2
  have HC := Lib.hid (check_any A c l w hok (rdw_of hrd) (by omega) hA)
  have HH := Lib.hid (And.intro hok (And.intro hrd (And.intro hc hA)))
  obtain ⟨R, hR⟩ : ∃ R, R = chk l := ⟨_, rfl⟩
  have HR := Lib.hid hR
  rw [← hR] at HC
  obtain ⟨q, er⟩ := R
  obtain ⟨n, hn⟩ : ∃ n, n = l.length := ⟨_, rfl⟩
  have HN := Lib.hid hn
  rw [← hn] at HC ⊢
  dsimp only at HC
  clear hok hrd hc hA hR hn
  by_cases h0 : er = 0
  · subst h0
    have HF : Hid (∃ T, Right l T ∧ (chk l).2 = 0) := Lib.hid (by
      have h1 : (chk l).2 = 0 := by rw [← HR.out]
      obtain ⟨_, T, h2, _⟩ := chk_fine.1 h1
      exact ⟨T, h2, h1⟩)
    obtain ⟨T, HT⟩ : ∃ T, Hid (Right l T ∧ (chk l).2 = 0) := HF.out
    obtain ⟨x, r, hx, hop⟩ := head_of HT.out.1.2
    have HX := Lib.hid (And.intro hx hop)
    have hnpos : 0 < n := by rw [HN.out, hx]; simp
    have hAb : ∃ b off, A = some ⟨b, off, none⟩ ∧ b < w.heap.size ∧ ∀ i x, l[i]? = some x → ∀ j v, (twcell x)[j]? = some v → w.cell? ⟨b, off + i * 4 + j, none⟩ = some v := by
      rcases HH.out.2.1 with h | h
      · rw [hx] at h; cases h
      · exact h
    obtain ⟨b, off, rfl, hb, hat⟩ := hAb
    have k0 : w.cell? ⟨b, off, none⟩ = some (.int .u8 (x.op : Nat)) := by
      have := hat 0 x (by rw [hx]; rfl) 0 _ rfl
      simpa using this
    have hop9 : x.op < 256 := (HH.out.1 x (by rw [hx]; simp)).1
    obtain ⟨op, kids, iv, tx⟩ := x
    dsimp only at k0 hop9 hop
    have HLE : Hid (Kind T → (shown T).length ≤ 16400) := Lib.hid (fun hk => by
      have h5 := few_shown HT.out.1.1 hk
      have h6 := (chk_fine.1 HT.out.2).1
      rw [HT.out.1.2] at h5
      omega)
    have hlt1 : ∀ w1 : World, Below w.heap.size w w1 → w1.cell? ⟨b, off, none⟩ = some (.int .u8 (op : Nat)) ∧ b < w1.heap.size := fun w1 h1 => ⟨(h1.cell (p := ⟨b, off, none⟩) hb).trans k0, Nat.lt_of_lt_of_le hb h1.size⟩
    have HL1 := Lib.hid hlt1
    have HOP := Lib.hid hop
    clear hx hat k0 hlt1 hop
    by_cases h1 : op = 1
    · subst h1
      go_enter Tryd.func12, Tryd.ntmps12
      go_wp2_with fail
      refine HC.out.mono ?_
      rintro e w1 ⟨rfl, hb1⟩
      have HB1 := Lib.hid hb1
      have k1 := (HL1.out w1 hb1).1
      have hb1' := (HL1.out w1 hb1).2
      have HW : Hid (WrM (w1.alloc (.cells #[.slice (some ⟨b, off, none⟩) n c, .slice none 0 0] 53)) w1.heap.size l []) := Lib.hid (by
        rw [HN.out]
        exact wrm_new (HH.out.2.1.below hb1) HH.out.2.2.1 (fun a ha => by obtain rfl := Option.some.inj ha; exact hb1'))
      have HWB : Hid (Below w.heap.size w1 (w1.alloc (.cells #[.slice (some ⟨b, off, none⟩) n c, .slice none 0 0] 53))) := Lib.hid (((Below.refl _ _).alloc (Nat.le_refl _) _).mono hb1.size)
      clear hb1
      go_wp2_with fail
      obtain ⟨s, ss, bt, g1, g2, g3, g4⟩ := (rt_of T _ HT.out.1.1).2.2.2.2 HOP.out.symm
      have HG := Lib.hid (And.intro g1 (And.intro g2 (And.intro g3 g4)))
      have hsz : bt.flat.length ≤ 100000 ∧ ss.length ≤ 100000 := by
        have h5 := HT.out.1.2
        rw [g4] at h5
        have h6 : l.length ≤ 100000 := hlen
        rw [← h5, Tr.flat, List.length_cons, flats_append, List.length_append] at h6
        have h7 : bt.flat.length = (flats [bt]).length := by simp [flats]
        have h8 : ∀ ks : List Tr, ks.length ≤ (flats ks).length := by
          intro ks
          induction ks with
          | nil => exact Nat.le_refl _
          | cons k ks ih => have := flat_pos k; rw [flats, List.length_append, List.length_cons]; omega
        have h9 := h8 (ss.map nameT)
        rw [List.length_map] at h9
        omega
      have HSH : Hid (sh (.node ⟨1, ((ss.length + 1 : Nat) : Int), 0, s⟩ (ss.map nameT ++ [bt])) 13 = shown T) := Lib.hid (by rw [g4]; rfl)
      clear g1 g2 g3 g4
      generalize w1.alloc _ = wa at *
      have hgs : w1.heap.size < wa.heap.size := HW.out.lt
      refine (wflow_any 100000 (Nat.le_refl _) s ss bt ⟨HG.out.2.2.1, hsz.1⟩ hsz.2 w1.heap.size [] [] wa (by rw [← HG.out.2.2.2, HT.out.1.2, List.append_nil]; exact HW.out) (by rw [HSH.out]; have := HLE.out (.inl HOP.out.symm); simp only [List.length_nil]; omega)).mono ?_
      rintro e w2 ⟨rfl, hk2, hm2⟩
      obtain ⟨Ao, co, k3, hown, _⟩ := hm2.out_
      have HO := Lib.hid (And.intro hown (And.intro hk2 (And.intro hm2 HSH.out)))
      clear hk2 hm2 hown
      obtain ⟨m, hm⟩ : ∃ m, m = ([] ++ sh (.node ⟨1, ((ss.length + 1 : Nat) : Int), 0, s⟩ (ss.map nameT ++ [bt])) 13).length := ⟨_, rfl⟩
      rw [← hm] at k3 HO
      have HM := Lib.hid hm
      clear hm
      go_wp2_with fail
      go_ret2
      refine ⟨Ao, m, co, _, 0, rfl, HM.out, own_mono HO.out.1 (by have := HB1.out.size; omega), ?_, .inr ⟨T, HT.out.1, HT.out.2, .inl ⟨.inl HOP.out.symm, rfl, by rw [List.nil_append]; exact HO.out.2.2.2⟩⟩⟩
      exact (HB1.out.trans (HWB.out)).trans (((HO.out.2.1).below (by omega)).mono HB1.out.size)
    · have hne : ((op : Int) == 1) = false := by rw [beq_eq_false_iff_ne]; omega
      have HE := Lib.hid (fun W => expression_any op W hop9)
      cases hx2 : exprB op with
      | true =>
        rw [hx2] at HE
        have HKI : Hid (Kind T) := Lib.hid (.inr (by rw [← HOP.out]; exact hx2))
        have HR0 : Hid (Rt 0 T) := Lib.hid ((rt_of T _ HT.out.1.1).1 (by rw [← HOP.out]; exact hx2))
        have HSH : Hid (sh T 1 = shown T) := Lib.hid (by
          obtain ⟨y, ks⟩ := T
          unfold shown
          dsimp only
          rw [if_neg (by intro h; have h2 : op = y.op := HOP.out; omega)])
        have hsz : T.flat.length ≤ 100000 := by rw [HT.out.1.2]; exact hlen
        clear hx2
        go_enter Tryd.func12, Tryd.ntmps12
        go_wp2_with fail
        refine HC.out.mono ?_
        rintro e w1 ⟨rfl, hb1⟩
        have HB1 := Lib.hid hb1
        have k1 := (HL1.out w1 hb1).1
        have hb1' := (HL1.out w1 hb1).2
        have HW : Hid (WrM (w1.alloc (.cells #[.slice (some ⟨b, off, none⟩) n c, .slice none 0 0] 53)) w1.heap.size l []) := Lib.hid (by
          rw [HN.out]
          exact wrm_new (HH.out.2.1.below hb1) HH.out.2.2.1 (fun a ha => by obtain rfl := Option.some.inj ha; exact hb1'))
        have HWB : Hid (Below w.heap.size w1 (w1.alloc (.cells #[.slice (some ⟨b, off, none⟩) n c, .slice none 0 0] 53))) := Lib.hid (((Below.refl _ _).alloc (Nat.le_refl _) _).mono hb1.size)
        clear hb1
        go_wp2_with fail
        generalize w1.alloc _ = wa at *
        have hgs : w1.heap.size < wa.heap.size := HW.out.lt
        refine (HE.out wa).mono ?_
        rintro e w1' ⟨rfl, hw⟩
        rw [hw]
        clear hw w1'
        go_wp2_with fail
        refine ((write_ok 100000 (Nat.le_refl _)).1 T HR0.out hsz w1.heap.size 1 [] [] wa (by omega) (by rw [HT.out.1.2, List.append_nil]; exact HW.out) (by rw [HSH.out]; have := HLE.out HKI.out; simp only [List.length_nil]; omega)).mono ?_
        rintro e w2 ⟨rfl, hk2, hm2⟩
        obtain ⟨Ao, co, k3, hown, _⟩ := hm2.out_
        have HO := Lib.hid (And.intro hown (And.intro hk2 (And.intro hm2 HSH.out)))
        clear hk2 hm2 hown
        obtain ⟨m, hm⟩ : ∃ m, m = ([] ++ sh T 1).length := ⟨_, rfl⟩
        rw [← hm] at k3 HO
        have HM := Lib.hid hm
        clear hm
        go_wp2_with fail
        go_ret2
        refine ⟨Ao, m, co, _, 0, rfl, HM.out, own_mono HO.out.1 (by have := HB1.out.size; omega), ?_, .inr ⟨T, HT.out.1, HT.out.2, .inl ⟨HKI.out, rfl, by rw [List.nil_append]; exact HO.out.2.2.2⟩⟩⟩
        exact (HB1.out.trans (HWB.out)).trans (((HO.out.2.1).below (by omega)).mono HB1.out.size)
      | false =>
        rw [hx2] at HE
        have HKI : Hid (¬ Kind T) := Lib.hid (by
          rintro (h | h)
          · have := HOP.out; omega
          · rw [← HOP.out, hx2] at h; cases h)
        clear hx2
        go_enter Tryd.func12, Tryd.ntmps12
        go_wp2_with fail
        refine HC.out.mono ?_
        rintro e w1 ⟨rfl, hb1⟩
        have HB1 := Lib.hid hb1
        have k1 := (HL1.out w1 hb1).1
        have hb1' := (HL1.out w1 hb1).2
        have HWB : Hid (Below w.heap.size w1 (w1.alloc (.cells #[.slice (some ⟨b, off, none⟩) n c, .slice none 0 0] 53))) := Lib.hid (((Below.refl _ _).alloc (Nat.le_refl _) _).mono hb1.size)
        clear hb1
        go_wp2_with fail
        generalize w1.alloc _ = wa at *
        refine (HE.out wa).mono ?_
        rintro e w1' ⟨rfl, hw⟩
        rw [hw]
        clear hw w1'
        go_wp2_with fail
        go_ret2
        exact ⟨none, 0, 0, [], 3, rfl, rfl, World.ownsRow_nil _ _ _ _, HB1.out.trans HWB.out, .inr ⟨T, HT.out.1, HT.out.2, .inr ⟨HKI.out, rfl, rfl⟩⟩⟩
  · have hne : (er != 0) = true := by simpa using h0
    have HZ : Hid ((chk l).2 ≠ 0 ∧ er = (chk l).2) := Lib.hid (by rw [← HR.out]; exact ⟨h0, rfl⟩)
    clear h0
    go_enter Tryd.func12, Tryd.ntmps12
    go_wp2_with fail
    refine HC.out.mono ?_
    rintro e w1 ⟨rfl, hb1⟩
    have HB1 := Lib.hid hb1
    clear hb1
    go_wp2_with fail
    go_ret2
    exact ⟨none, 0, 0, [], er, rfl, rfl, World.ownsRow_nil _ _ _ _, HB1.out, .inl ⟨HZ.out.1, HZ.out.2, rfl⟩⟩
end Go.Proofs.YtbcadlocldplfaaDoor
namespace Go.Proofs.YtbcadlocldplfaaDoor
open T8
def cv (x : Tz) : T7.Tz := ⟨x.kind, x.text, x.int, (x.at_ : Int)⟩
def Gd1 (x : Tz) : Prop := T7.rightB (cv x) = true ∧ x.int ≤ 9223372036854775807
def GL (l : List Tz) : Prop := ∀ x ∈ l, Gd1 x
theorem GL.nil : GL [] := fun x hx => by cases hx
theorem GL.cons {x : Tz} {l : List Tz} (h : Gd1 x) (hl : GL l) : GL (x :: l) := fun y hy => by
  rcases List.mem_cons.1 hy with rfl | hy
  · exact h
  · exact hl y hy
theorem GL.app {a b : List Tz} (h : GL a) (h2 : GL b) : GL (a ++ b) := fun y hy => (List.mem_append.1 hy).elim (h y) (h2 y)
theorem gd_wd {s : List UInt8} (h : T7.wordOk s = true) : Gd1 (wd s) := by
  refine ⟨?_, show (0 : Int) ≤ _ by decide⟩
  show (T7.wordOk s && decide ((0 : Int) = 0)) = true
  rw [h]; rfl
theorem gd_wt {s : ByteArray} (h : T7.wordOk s.data.toList = true) : Gd1 (wt s) := by
  refine ⟨?_, show (0 : Int) ≤ _ by decide⟩
  show (T7.wordOk s.data.toList && decide ((0 : Int) = 0)) = true
  rw [h]; rfl
theorem gd_sg {s : List UInt8} (h : s ∈ T7.sgn17) : Gd1 (sg s) := by
  refine ⟨?_, show (0 : Int) ≤ _ by decide⟩
  show (decide (s ∈ T7.sgn17) && decide ((0 : Int) = 0)) = true
  rw [decide_eq_true h]; rfl
theorem gd_mid (op : Nat) : Gd1 (midT op) := by
  unfold midT
  repeat' split
  all_goals first | exact gd_wd (by decide) | exact gd_sg (by decide)
theorem gd_one (op : Nat) : Gd1 (oneT op) := by
  unfold oneT
  repeat' split
  all_goals exact gd_wd (by decide)
def NiceT (x : Tw) : Prop := (x.op = 1 ∨ x.op = 2 ∨ x.op = 4 ∨ x.op = 5 ∨ x.op = 26 ∨ x.op = 50 ∨ x.op = 51 ∨ x.op = 56 → T7.wordOk x.text.data.toList = true) ∧ (x.op = 23 → 0 ≤ x.int ∧ x.int ≤ 9223372036854775807) ∧ (x.op = 24 → x.text.data.toList.length ≤ 4095)
theorem word_of {s : ByteArray} (h : nameB s.toList = true) : T7.wordOk s.data.toList = true := by
  rw [ByteArray.toList_eq] at h
  generalize s.data.toList = l at h
  unfold nameB at h
  rw [Bool.and_eq_true, Bool.and_eq_true] at h
  obtain ⟨⟨h1, h2⟩, h3⟩ := h
  cases l with
  | nil => cases h2
  | cons c r =>
    show (decide ((c :: r).length ≤ 24) && lowB c && (c :: r).all innB) = true
    rw [h1, Bool.true_and, Bool.and_eq_true]
    have h2' : decide (97 ≤ c.toNat ∧ c.toNat ≤ 122) = true := h2
    refine ⟨?_, ?_⟩
    · unfold lowB
      simpa using h2'
    · rw [List.all_eq_true] at h3 ⊢
      intro d hd
      have h4 := h3 d hd
      unfold inC at h4
      unfold innB lowB digB
      simp only [decide_eq_true_eq] at h4
      simp only [Bool.or_eq_true, Bool.and_eq_true, decide_eq_true_eq]
      omega
theorem nice_of {x : Tw} {may : Nat → Bool} (h : fineB x may = true) (hi : x.int ≤ 9223372036854775807) : NiceT x := by
  unfold fineB at h
  cases hf : formOf x.op with
  | none => rw [hf] at h; cases h
  | some f =>
    rw [hf] at h
    simp only [Bool.and_eq_true, decide_eq_true_eq] at h
    refine ⟨fun ho => ?_, fun ho => ⟨h.2.2.2.2.2, hi⟩, fun ho => ?_⟩
    · have hf2 : f.txt = 78 := by
        rcases ho with ho | ho | ho | ho | ho | ho | ho | ho <;> (rw [ho] at hf; injection hf with hf; rw [← hf])
      have h1 : txtB f.txt x.text = true := h.2.1
      rw [hf2] at h1
      have h2 : (nameB x.text.toList && !kw x.text.toList) = true := h1
      rw [Bool.and_eq_true] at h2
      exact word_of h2.1
    · have hf2 : f.txt = 84 := by rw [ho] at hf; injection hf with hf; rw [← hf]
      have h1 : txtB f.txt x.text = true := h.2.1
      rw [hf2] at h1
      have h2 : decide (x.text.size ≤ 4095) = true := h1
      exact of_decide_eq_true h2
mutual
theorem flat_fine : ∀ (t : Tr) (may : Nat → Bool), t.ok may → ∀ x ∈ t.flat, ∃ m, fineB x m = true
  | .node y ks, may, h, x, hx => by
    rw [Tr.ok] at h
    rw [Tr.flat] at hx
    rcases List.mem_cons.1 hx with rfl | hx
    · exact ⟨may, h.1⟩
    · exact flats_fine ks y 0 h.2.2 x hx
theorem flats_fine : ∀ (ks : List Tr) (y : Tw) (i : Nat), oks y i ks → ∀ x ∈ flats ks, ∃ m, fineB x m = true
  | [], _, _, _, x, hx => by rw [flats] at hx; cases hx
  | k :: ks, y, i, h, x, hx => by
    rw [oks] at h
    rw [flats] at hx
    rcases List.mem_append.1 hx with hx | hx
    · exact flat_fine k _ h.1 x hx
    · exact flats_fine ks y (i + 1) h.2 x hx
end
/-! What is shown of good twigs. -/
theorem gl_br {x : Tw} {ks : List Tr} (h : GL (bareS x (shs ks))) {a : Nat} (ha : a ≤ 9) : GL (sh (.node x ks) a) := by
  rw [sh_expr x ks ha]
  split
  · exact .cons (gd_sg (by decide)) (.app h (.cons (gd_sg (by decide)) .nil))
  · exact h
theorem gl_commas {m : Nat} : ∀ {ks : List Tr}, (∀ k ∈ ks, GL (sh k m)) → GL (commas m (shs ks))
  | [], _ => by rw [shs, commas]; exact .nil
  | [k], h => by rw [shs, shs, commas]; exact h k (by simp)
  | k :: j :: ks, h => by
    have h2 := gl_commas (ks := j :: ks) (m := m) (fun i hi => h i (by simp [hi]))
    rw [show shs (k :: j :: ks) = sh k :: sh j :: shs ks from by rw [shs, shs], commas]
    rw [show shs (j :: ks) = sh j :: shs ks from by rw [shs]] at h2
    exact .app (h k (by simp)) (.cons (gd_sg (by decide)) h2)
theorem gl_all {m : Nat} : ∀ {ks : List Tr}, (∀ k ∈ ks, GL (sh k m)) → GL (allS m (shs ks))
  | [], _ => by rw [shs]; exact .nil
  | k :: ks, h => by
    have h2 := gl_all (ks := ks) (m := m) (fun i hi => h i (by simp [hi]))
    unfold allS at h2 ⊢
    rw [shs, List.flatMap_cons]
    exact .app (h k (by simp)) h2
theorem gl_lis {o e : List UInt8} (ho : o ∈ T7.sgn17) (he : e ∈ T7.sgn17) {ks : List Tr} (h : ∀ k ∈ ks, GL (sh k 1)) : GL (lisS o (shs ks) e) :=
  .cons (gd_sg ho) (.app (gl_commas h) (.cons (gd_sg he) .nil))
def Nices (t : Tr) : Prop := ∀ x ∈ t.flat, NiceT x
theorem Nices.kid {x : Tw} {ks : List Tr} (h : Nices (.node x ks)) {k : Tr} (hk : k ∈ ks) : Nices k := fun y hy => h y (by rw [Tr.flat]; exact List.mem_cons_of_mem _ (flat_mem hk y hy))
theorem Nices.top {x : Tw} {ks : List Tr} (h : Nices (.node x ks)) : NiceT x := h x (by rw [Tr.flat]; simp)
theorem gl_any {kd : Nat} {t : Tr} (h : Rt kd t) : Nices t → (kd = 0 → ∀ a, a ≤ 9 → GL (sh t a)) ∧ (kd = 1 → GL (sh t 10)) ∧ (kd = 2 → GL (sh t 11)) := by
  induction h with
  | @word op ho =>
    refine fun _ => ⟨fun _ a ha => gl_br ?_ ha, fun h => (by cases h), fun h => (by cases h)⟩
    rcases ho with rfl | rfl | rfl | rfl <;> exact .cons (gd_wd (by decide)) .nil
  | int i =>
    intro hn
    have h2 := hn.top.2.1 rfl
    refine ⟨fun _ a ha => gl_br ?_ ha, fun h => (by cases h), fun h => (by cases h)⟩
    refine .cons ⟨?_, h2.2⟩ .nil
    show (decide (([] : List UInt8) = []) && decide ((0 : Int) ≤ i)) = true
    rw [decide_eq_true rfl, decide_eq_true h2.1]; rfl
  | text s =>
    intro hn
    have h2 := hn.top.2.2 rfl
    refine ⟨fun _ a ha => gl_br ?_ ha, fun h => (by cases h), fun h => (by cases h)⟩
    refine .cons ⟨?_, show (0 : Int) ≤ _ by decide⟩ .nil
    show (decide (s.data.toList.length ≤ 4095) && decide ((0 : Int) = 0)) = true
    rw [decide_eq_true h2]; rfl
  | name hs =>
    refine fun hn => ⟨fun _ a ha => gl_br ?_ ha, fun h => (by cases h), fun h => (by cases h)⟩
    exact .cons (gd_wt (hn.top.1 (by simp))) .nil
  | take hs =>
    refine fun hn => ⟨fun _ a ha => gl_br ?_ ha, fun h => (by cases h), fun h => (by cases h)⟩
    exact .cons (gd_wd (s := [116, 97, 107, 101]) (by decide)) (.cons (gd_wt (hn.top.1 (by simp))) .nil)
  | @list ks h ih =>
    refine fun hn => ⟨fun _ a ha => gl_br ?_ ha, fun h => (by cases h), fun h => (by cases h)⟩
    exact gl_lis (by decide) (by decide) fun k hk => (ih k hk (hn.kid hk)).1 rfl 1 (by omega)
  | @call op s ks ho hs h ih =>
    refine fun hn => ⟨fun _ a ha => gl_br ?_ ha, fun h => (by cases h), fun h => (by cases h)⟩
    have h1 := gl_lis (o := [40]) (e := [41]) (by decide) (by decide) fun k hk => (ih k hk (hn.kid hk)).1 rfl 1 (by omega)
    have h2 := hn.top.1
    rcases ho with rfl | rfl
    · exact .cons (gd_wd (s := [99, 97, 108, 108]) (by decide)) (.cons (gd_wt (h2 (by simp))) h1)
    · exact .cons (gd_wd (s := [99, 104, 105, 108, 100]) (by decide)) (.cons (gd_wt (h2 (by simp))) h1)
  | @one op k ho h ih =>
    refine fun hn => ⟨fun _ a ha => gl_br ?_ ha, fun h => (by cases h), fun h => (by cases h)⟩
    have h1 := gl_lis (o := [40]) (e := [41]) (by decide) (by decide) (mem_one ((ih (hn.kid (by simp))).1 rfl 1 (by omega)))
    have e : bareS ⟨op, 1, 0, bs []⟩ (shs [k]) = oneT op :: lisS [40] (shs [k]) [41] := by rcases ho with rfl | rfl | rfl | rfl | rfl <;> rfl
    rw [e]
    exact .cons (gd_one op) h1
  | @num k j h h2 ih ih2 =>
    refine fun hn => ⟨fun _ a ha => gl_br ?_ ha, fun h => (by cases h), fun h => (by cases h)⟩
    exact .cons (gd_one 41) (gl_lis (o := [40]) (e := [41]) (by decide) (by decide) (mem_duo ((ih (hn.kid (by simp))).1 rfl 1 (by omega)) ((ih2 (hn.kid (by simp))).1 rfl 1 (by omega))))
  | @fork k h ih =>
    refine fun hn => ⟨fun _ a ha => gl_br ?_ ha, fun h => (by cases h), fun h => (by cases h)⟩
    rw [shs1]
    exact .cons (gd_wd (s := [102, 111, 114, 107]) (by decide)) ((ih (hn.kid (by simp))).2.1 rfl)
  | @not k h ih =>
    refine fun hn => ⟨fun _ a ha => gl_br ?_ ha, fun h => (by cases h), fun h => (by cases h)⟩
    rw [shs1]
    exact .cons (gd_wd (s := [110, 111, 116]) (by decide)) ((ih (hn.kid (by simp))).1 rfl 3 (by omega))
  | @pre op k ho h ih =>
    refine fun hn => ⟨fun _ a ha => gl_br ?_ ha, fun h => (by cases h), fun h => (by cases h)⟩
    have h1 := (ih (hn.kid (by simp))).1 rfl 7 (by omega)
    rw [shs1]
    rcases ho with rfl | rfl | rfl
    · exact .cons (gd_sg (s := [45]) (by decide)) h1
    · exact .cons (gd_wd (s := [97, 119, 97, 105, 116]) (by decide)) h1
    · exact .cons (gd_wd (s := [115, 101, 116, 116, 108, 101]) (by decide)) h1
  | @at_ k j h h2 ih ih2 =>
    refine fun hn => ⟨fun _ a ha => gl_br ?_ ha, fun h => (by cases h), fun h => (by cases h)⟩
    rw [shs2]
    exact .app ((ih (hn.kid (by simp))).1 rfl 8 (by omega)) (.cons (gd_sg (s := [91]) (by decide)) (.app ((ih2 (hn.kid (by simp))).1 rfl 1 (by omega)) (.cons (gd_sg (s := [93]) (by decide)) .nil)))
  | @cmp op k j ho h h2 ih ih2 =>
    refine fun hn => ⟨fun _ a ha => gl_br ?_ ha, fun h => (by cases h), fun h => (by cases h)⟩
    rw [shs2]
    have e : bareS ⟨op, 2, 0, bs []⟩ [sh k, sh j] = sh k 5 ++ midT op :: sh j 5 := by
      have : op = 32 ∨ op = 33 ∨ op = 34 ∨ op = 35 := by omega
      rcases this with rfl | rfl | rfl | rfl <;> rfl
    rw [e]
    exact .app ((ih (hn.kid (by simp))).1 rfl 5 (by omega)) (.cons (gd_mid op) ((ih2 (hn.kid (by simp))).1 rfl 5 (by omega)))
  | @bin op k j ho h h2 ih ih2 =>
    refine fun hn => ⟨fun _ a ha => gl_br ?_ ha, fun h => (by cases h), fun h => (by cases h)⟩
    have hc : op = 30 ∨ op = 31 ∨ op = 36 ∨ op = 37 ∨ op = 38 ∨ op = 39 ∨ op = 40 := by omega
    have hw : width op ≤ 6 := by rcases hc with rfl | rfl | rfl | rfl | rfl | rfl | rfl <;> decide
    rw [shs2]
    have e : bareS ⟨op, 2, 0, bs []⟩ [sh k, sh j] = sh k (width op) ++ midT op :: sh j (width op + 1) := by rcases hc with rfl | rfl | rfl | rfl | rfl | rfl | rfl <;> rfl
    rw [e]
    exact .app ((ih (hn.kid (by simp))).1 rfl _ (by omega)) (.cons (gd_mid op) ((ih2 (hn.kid (by simp))).1 rfl _ (by omega)))
  | @block ks h ih =>
    refine fun hn => ⟨fun h => (by cases h), fun _ => ?_, fun h => (by cases h)⟩
    rw [sh_node]
    exact .cons (gd_sg (s := [123]) (by decide)) (.app (gl_all (m := 11) fun k hk => (ih k hk (hn.kid hk)).2.2 rfl) (.cons (gd_sg (s := [125]) (by decide)) .nil))
  | @put op s k ho hs h ih =>
    refine fun hn => ⟨fun h => (by cases h), fun h => (by cases h), fun _ => ?_⟩
    have h1 := (ih (hn.kid (by simp))).1 rfl 1 (by omega)
    have h2 := hn.top.1
    rw [sh_node, shs1]
    rcases ho with rfl | rfl
    · exact .cons (gd_wd (s := [108, 101, 116]) (by decide)) (.cons (gd_wt (h2 (by simp))) (.cons (gd_sg (s := [61]) (by decide)) h1))
    · exact .cons (gd_wt (h2 (by simp))) (.cons (gd_sg (s := [61]) (by decide)) h1)
  | @if2 k j h h2 ih ih2 =>
    refine fun hn => ⟨fun h => (by cases h), fun h => (by cases h), fun _ => ?_⟩
    rw [sh_node, shs2]
    exact .cons (gd_wd (s := [105, 102]) (by decide)) (.app ((ih (hn.kid (by simp))).1 rfl 1 (by omega)) (.app ((ih2 (hn.kid (by simp))).2.1 rfl) .nil))
  | @if3 k j i h h2 h3 ih ih2 ih3 =>
    refine fun hn => ⟨fun h => (by cases h), fun h => (by cases h), fun _ => ?_⟩
    rw [sh_node, shs3]
    exact .cons (gd_wd (s := [105, 102]) (by decide)) (.app ((ih (hn.kid (by simp))).1 rfl 1 (by omega)) (.app ((ih2 (hn.kid (by simp))).2.1 rfl) (.cons (gd_wd (s := [101, 108, 115, 101]) (by decide)) ((ih3 (hn.kid (by simp))).2.1 rfl))))
  | @while_ k j h h2 ih ih2 =>
    refine fun hn => ⟨fun h => (by cases h), fun h => (by cases h), fun _ => ?_⟩
    rw [sh_node, shs2]
    exact .cons (gd_wd (s := [119, 104, 105, 108, 101]) (by decide)) (.app ((ih (hn.kid (by simp))).1 rfl 1 (by omega)) ((ih2 (hn.kid (by simp))).2.1 rfl))
  | @do_ op k ho h ih =>
    refine fun hn => ⟨fun h => (by cases h), fun h => (by cases h), fun _ => ?_⟩
    have h1 := (ih (hn.kid (by simp))).1 rfl 1 (by omega)
    rw [sh_node, shs1]
    have : op = 8 ∨ op = 9 ∨ op = 10 ∨ op = 11 := by omega
    rcases this with rfl | rfl | rfl | rfl
    · exact .cons (gd_wd (s := [114, 101, 116, 117, 114, 110]) (by decide)) h1
    · exact .cons (gd_wd (s := [102, 97, 105, 108]) (by decide)) h1
    · exact .cons (gd_wd (s := [115, 108, 101, 101, 112]) (by decide)) h1
    · exact .cons (gd_wd (s := [100, 111]) (by decide)) h1
theorem gl_shown {T : Tr} {may : Nat → Bool} (h : T.ok may) (hk : Kind T) (hi : ∀ x ∈ T.flat, x.int ≤ 9223372036854775807) : GL (shown T) := by
  have hn : Nices T := fun x hx => by
    obtain ⟨m, hm⟩ := flat_fine T may h x hx
    exact nice_of hm (hi x hx)
  have hg := rt_of T may h
  obtain ⟨x, ks⟩ := T
  unfold shown
  rcases hk with hk | hk
  · have hk1 : x.op = 1 := hk
    dsimp only
    rw [if_pos hk1]
    obtain ⟨s, ss, b, h1, h2, h3, h4⟩ := hg.2.2.2.2 hk
    rw [h4] at hn ⊢
    rw [sh_node]
    show GL (flowS _ _)
    unfold flowS
    have e1 : shs (ss.map nameT ++ [b]) = shs (ss.map nameT) ++ [sh b] := by rw [shs_map, shs_map, List.map_append]; rfl
    have e2 : nthS (shs (ss.map nameT) ++ [sh b]) ((shs (ss.map nameT) ++ [sh b]).length - 1) 10 = sh b 10 := by
      unfold nthS
      rw [List.length_append, List.length_singleton, Nat.add_sub_cancel, List.getElem?_append_right (Nat.le_refl _), Nat.sub_self]
      rfl
    rw [e1, List.dropLast_concat, e2]
    refine .cons (gd_wd (by decide)) (.cons (gd_wt (hn.top.1 (by simp))) (.cons (gd_sg (by decide)) (.app (gl_commas fun k hk => ?_) (.cons (gd_sg (by decide)) ((gl_any h3 (hn.kid (by simp))).2.1 rfl)))))
    have hk2 := hn.kid (k := k) (by simp [List.mem_append, hk])
    obtain ⟨s2, _, rfl⟩ := List.mem_map.1 hk
    have e3 : sh (nameT s2) 12 = [wt s2] := by unfold nameT; rw [sh_node]; rfl
    rw [e3]
    exact .cons (gd_wt ((Nices.top hk2).1 (by simp))) .nil
  · have hk1 : x.op ≠ 1 := by
      intro he
      have hk2 : exprB x.op = true := hk
      rw [he] at hk2
      cases hk2
    dsimp only
    rw [if_neg hk1]
    exact (gl_any (hg.1 hk) hn).1 rfl 1 (by omega)
end Go.Proofs.YtbcadlocldplfaaDoor
namespace Go.Proofs.YtbcadlocldplfaaDoor
set_option maxRecDepth 100000
open Go.RowKit T8
abbrev Tab (w : World) : Prop := Lib.TabIs Tryd.prog w "internal/strconv.uint64pow10" .u64 Lib.pow10Tab
theorem ite_or {α : Type} {c : Prop} [Decidable c] {a b x : α} (h : (if c then a else b) = x) : (c ∧ a = x) ∨ (¬ c ∧ b = x) := by
  by_cases hc : c
  · rw [if_pos hc] at h
    exact .inl ⟨hc, h⟩
  · rw [if_neg hc] at h
    exact .inr ⟨hc, h⟩
theorem gd_ok {x : Tz} (h : Gd1 x) : T7.TzOk (cv x) := by
  obtain ⟨k, tx, iv, p⟩ := x
  obtain ⟨h1, h2⟩ := h
  have h2' : iv ≤ 9223372036854775807 := h2
  unfold T7.rightB at h1
  have hs : tx.size = tx.data.toList.length := rfl
  have hb : k < 256 ∧ tx.size ≤ 9223372036854775807 ∧ 0 ≤ iv := by
    change (if k = 1 then T7.wordOk tx.data.toList && decide (iv = 0) else if k = 2 then decide (tx.data.toList = []) && decide (0 ≤ iv) else if k = 3 then decide (tx.data.toList.length ≤ 4095) && decide (iv = 0) else if k = 4 then decide (tx.data.toList ∈ T7.sgn17) && decide (iv = 0) else false) = true at h1
    rw [hs]
    generalize tx.data.toList = l at *
    rcases ite_or h1 with ⟨hk, h1⟩ | ⟨_, h1⟩
    · rw [Bool.and_eq_true, decide_eq_true_eq] at h1
      have h3 := h1.1
      unfold T7.wordOk at h3
      cases l with
      | nil => cases h3
      | cons c r =>
        simp only [Bool.and_eq_true, decide_eq_true_eq] at h3
        omega
    rcases ite_or h1 with ⟨hk, h1⟩ | ⟨_, h1⟩
    · simp only [Bool.and_eq_true, decide_eq_true_eq] at h1
      rw [h1.1]
      exact ⟨by omega, by simp, h1.2⟩
    rcases ite_or h1 with ⟨hk, h1⟩ | ⟨_, h1⟩
    · simp only [Bool.and_eq_true, decide_eq_true_eq] at h1
      omega
    rcases ite_or h1 with ⟨hk, h1⟩ | ⟨_, h1⟩
    · simp only [Bool.and_eq_true, decide_eq_true_eq] at h1
      have key : ∀ s ∈ T7.sgn17, s.length ≤ 2 := by decide
      have := key l h1.1
      omega
    · cases h1
  exact ⟨hb.1, hb.2.1, by show -9223372036854775808 ≤ iv; omega, h2'⟩
theorem gl_tz {o : List Tz} (h : GL o) : ∀ x ∈ o.map cv, T7.TzOk x := fun x hx => by
  obtain ⟨y, hy, rfl⟩ := List.mem_map.1 hx
  exact gd_ok (h y hy)
theorem rowOf_cv (o : List Tz) : rowOf T7.zcell (o.map cv) = rowOf zcell o := by
  unfold rowOf
  rw [List.flatMap_map]
  rfl
theorem rd_cv {w : World} {base n c : Nat} {A : Option Addr} {o : List Tz} (h : w.ownsRow base 35 4 (.slice A n c) n (rowOf zcell o)) (hn : n = o.length) : T7.RdZ w A (o.map cv) := by
  rw [← rowOf_cv] at h
  exact RdL.of_own T7.zcell_len h (by rw [List.length_map]; exact hn)
theorem ShowR.gl {l : List Tw} {o : List Tz} {er : Int} (h : ShowR l o er) (hok : ∀ x ∈ l, TwOk x) : GL o := by
  rcases h with ⟨_, _, h⟩ | ⟨T, h1, h2, ⟨h3, _, h4⟩ | ⟨_, _, h4⟩⟩
  · rw [h]; exact .nil
  · rw [h4]
    exact gl_shown h1.1 h3 (fun x hx => (hok x (by rw [← h1.2]; exact hx)).2.2.2.2.1)
  · rw [h4]; exact .nil
def strL (o : List Tz) (er : Int) : List UInt8 × Int := if er = 0 then ((T7.spellL (o.map cv)).1, ((T7.spellL (o.map cv)).2 : Nat)) else ([], er)
def StrPost (w : World) (l : List Tw) (e : Ending) (w' : World) : Prop :=
  ∃ o er, ShowR l o er ∧ Below w.heap.size w w' ∧ e = .returned (.tuple #[.string ⟨(strL o er).1.toArray⟩, .int .i64 (strL o er).2])
set_option maxHeartbeats 4000000 in
theorem stree_any (A : Option Addr) (c : Nat) (l : List Tw) (w : World) (hok : ∀ x ∈ l, TwOk x) (hrd : RdL twcell 4 w A l) (hc : l.length ≤ c) (hlen : l.length ≤ 100000) (htab : Tab w) :
    Calls Tryd.prog 9 #[.slice A l.length c] w (StrPost w l) := by
  have HC := Lib.hid (tokens_any A c l w hok hrd hc hlen)
  have HH := Lib.hid (And.intro hok htab)
  obtain ⟨n, hn⟩ : ∃ n, n = l.length := ⟨_, rfl⟩
  rw [← hn] at HC ⊢
  clear hok hrd hc hlen htab hn
  go_enter Tryd.func9, Tryd.ntmps9
  go_wp2_with fail
  refine HC.out.mono ?_
  rintro e w1 ⟨A1, n1, c1, o, er, rfl, hn1, ho1, hb1, hr1⟩
  have H1 := Lib.hid (And.intro hn1 (And.intro ho1 (And.intro hb1 hr1)))
  clear hn1 ho1 hb1 hr1 HC
  by_cases h0 : er = 0
  · subst h0
    have HS : Hid (Calls Tryd.prog 21 #[.slice A1 n1 c1] w1 (T7.SpellPost w1 (o.map cv))) := Lib.hid (by
      have := T7.spell_any A1 c1 (o.map cv) w1 (rd_cv H1.out.2.1 H1.out.1) (by rw [List.length_map]; have := H1.out.2.2.2.few; omega) (gl_tz (H1.out.2.2.2.gl HH.out.1)) (T7.tab_below HH.out.2 H1.out.2.2.1)
      rwa [List.length_map, ← H1.out.1] at this)
    go_wp2_with fail
    refine HS.out.mono ?_
    rintro e w2 ⟨rfl, hb2⟩
    have H2 := Lib.hid hb2
    clear hb2 HS
    go_wp2_with fail
    go_ret2
    exact ⟨o, 0, H1.out.2.2.2, H1.out.2.2.1.trans (H2.out.mono H1.out.2.2.1.size), by unfold strL; rfl⟩
  · have hne : (er != 0) = true := by simpa using h0
    have HE : Hid (strL o er = ([], er)) := Lib.hid (by unfold strL; rw [if_neg h0])
    clear h0
    go_wp2_with fail
    go_ret2
    exact ⟨o, er, H1.out.2.2.2, H1.out.2.2.1, by rw [HE.out]; rfl⟩
def wakeW : List Tw := [⟨37, 2, 0, bs []⟩, ⟨23, 0, 1, bs []⟩, ⟨37, 2, 0, bs []⟩, ⟨23, 0, 2, bs []⟩, ⟨23, 0, 3, bs []⟩]
def wakeR : Tr := .node ⟨37, 2, 0, bs []⟩ [.node ⟨23, 0, 1, bs []⟩ [], .node ⟨37, 2, 0, bs []⟩ [.node ⟨23, 0, 2, bs []⟩ [], .node ⟨23, 0, 3, bs []⟩ []]]
theorem wakeW_str {o : List Tz} {er : Int} (h : ShowR wakeW o er) : strL o er = ([49, 32, 45, 32, 40, 32, 50, 32, 45, 32, 51, 32, 41], 0) := by
  have hc : (chk wakeW).2 = 0 := by kernel_rfl
  rcases h with ⟨h1, _⟩ | ⟨T, h1, h2, h3⟩
  · exact absurd hc h1
  · have hT : T = wakeR := by
      have hw : Wf wakeR := by simp [wakeR, Wf, Wfs]
      have hf : wakeR.flat = wakeW := by simp [wakeR, wakeW, Tr.flat, flats]
      exact (wf_same T wakeR [] [] (wf_ok T _ h1.1) hw (by rw [List.append_nil, List.append_nil, h1.2, hf])).1
    subst hT
    rcases h3 with ⟨_, rfl, rfl⟩ | ⟨h3, _⟩
    · unfold strL
      rw [if_pos rfl]
      have e : shown wakeR = [⟨2, bs [], 1, 0⟩, sg [45], sg [40], ⟨2, bs [], 2, 0⟩, sg [45], ⟨2, bs [], 3, 0⟩, sg [41]] := by
        simp [shown, wakeR, sh, shs, bodyS, bareS, width, nthS, midT]
      rw [e]
      have k1 : T7.spellL (([⟨2, bs [], 1, 0⟩, sg [45], sg [40], ⟨2, bs [], 2, 0⟩, sg [45], ⟨2, bs [], 3, 0⟩, sg [41]] : List Tz).map cv) = ([49, 32, 45, 32, 40, 32, 50, 32, 45, 32, 51, 32, 41], 0) := by kernel_rfl
      rw [k1]
      rfl
    · exact absurd (Or.inr (by decide)) h3
set_option maxHeartbeats 4000000 in
theorem wakes10_any (w : World) (htab : Tab w) : Calls Tryd.prog 8 #[] w fun e w' => e = .returned (.bool true) ∧ Below w.heap.size w w' := by
  have HT := Lib.hid htab
  clear htab
  have e1 : ((⟨#[49, 32, 45, 32, 40, 32, 50, 32, 45, 32, 51, 32, 41]⟩ : ByteArray).toList == (⟨#[49, 32, 45, 32, 40, 32, 50, 32, 45, 32, 51, 32, 41]⟩ : ByteArray).toList) = true := beq_self_eq_true _
  go_enter Tryd.func8, Tryd.ntmps8
  have hd : RdL twcell 4 (w.alloc (.cells (rowOf twcell wakeW).toArray 42)) (some ⟨w.heap.size, 0, none⟩) wakeW := by
    refine .inr ⟨w.heap.size, 0, rfl, by simp, fun i x hx j v hv => ?_⟩
    have h1 := rowOf_get twcell_len wakeW i x j v hx hv
    rw [Nat.zero_add, (Blk.new w 42 (rowOf twcell wakeW).toArray).cell]
    simpa using h1
  have hok : ∀ x ∈ wakeW, TwOk x := by
    intro x hx
    simp only [wakeW, List.mem_cons, List.not_mem_nil, or_false] at hx
    rcases hx with rfl | rfl | rfl | rfl | rfl <;> (unfold TwOk maxLen; simp [bs]; exact Nat.zero_le _)
  have HC := Lib.hid (stree_any (some ⟨w.heap.size, 0, none⟩) 5 wakeW _ hok hd (Nat.le_refl _) (by decide) (T7.tab_below HT.out ((Below.refl _ _).alloc (Nat.le_refl _) _)))
  clear hd hok
  go_wp2_with fail
  refine HC.out.mono ?_
  rintro e w1 ⟨o, er, hr, hb, rfl⟩
  have hs := wakeW_str hr
  rw [hs]
  have HB := Lib.hid hb
  clear hs hr hb HC
  go_wp2_with fail
  go_ret
  exact ⟨rfl, ((Below.refl _ _).alloc (Nat.le_refl _) _).trans (HB.out.mono (by simp))⟩
theorem rd_at {w : World} {A : Option Addr} {l : List Tw} (h : RdL twcell 4 w A l) (hl : l ≠ []) : ∃ b off, A = some ⟨b, off, none⟩ ∧ ∀ k x, l[k]? = some x → TwAt w b (off + k * 4) x := by
  rcases rdw_of h with h | ⟨b, off, h1, _, h2⟩
  · exact absurd h hl
  · exact ⟨b, off, h1, h2⟩
set_option maxHeartbeats 4000000 in
theorem alike_any (A B : Option Addr) (ca cb n m : Nat) (la lb : List Tw) (w : World) (ha : RdL twcell 4 w A la) (hb : RdL twcell 4 w B lb) (hl : n = la.length) (hl2 : m = lb.length) (hn : n ≤ 1000000) :
    Calls Tryd.prog 11 #[.slice A n ca, .slice B m cb] w fun e w' => e = .returned (.bool (decide (la = lb))) ∧ ∃ q, w' = w.drewN q := by
  by_cases hnm : n = m
  · subst hnm
    have HA := Lib.hid ha
    have HB := Lib.hid hb
    have HL := Lib.hid hl
    have HL2 := Lib.hid hl2
    clear ha hb hl hl2
    go_enter Tryd.func11, Tryd.ntmps11
    go_wp2_with fail
    go_loopw [5] (fun s5 wr => ∃ k : Nat, s5 = .int .i64 k ∧ k ≤ n ∧ la.take k = lb.take k ∧ ∃ q, wr = w.drewN q) (fun s5 _ => n - (intOf s5).toNat)
    case atStart => exact ⟨0, rfl, by omega, rfl, 0, rfl⟩
    case round =>
      obtain ⟨k, rfl, hk, hpre, hw⟩ := hrel
      have HP := Lib.hid (And.intro hpre hw)
      clear hpre hw
      by_cases hlt : k < n
      · have hka : k < la.length := by rw [← HL.out]; exact hlt
        have hkb : k < lb.length := by rw [← HL2.out]; exact hlt
        obtain ⟨ga, hga⟩ : ∃ g, la[k]? = some g := ⟨_, List.getElem?_eq_getElem hka⟩
        obtain ⟨gb, hgb⟩ : ∃ g, lb[k]? = some g := ⟨_, List.getElem?_eq_getElem hkb⟩
        obtain ⟨b1, o1, rfl, hc1⟩ := rd_at HA.out (fun h => by rw [h] at hka; exact absurd hka (by simp))
        obtain ⟨b2, o2, rfl, hc2⟩ := rd_at HB.out (fun h => by rw [h] at hkb; exact absurd hkb (by simp))
        obtain ⟨q, hq⟩ := HP.out.2
        have hat1 : TwAt wr b1 (o1 + k * 4) ga := by rw [hq]; exact hc1 k ga hga
        have hat2 : TwAt wr b2 (o2 + k * 4) gb := by rw [hq]; exact hc2 k gb hgb
        have HG := Lib.hid (And.intro hga (And.intro hgb hq))
        have hkn : (k : Int) < (n : Int) := by omega
        have hk0 : (0 : Int) ≤ (k : Int) := by omega
        clear hga hgb hq hc1 hc2 hka hkb
        obtain ⟨ka, ia, pa, ta⟩ := ga
        obtain ⟨kb, ib, pb, tb⟩ := gb
        obtain ⟨c0, c1, c2, c3⟩ := hat1
        obtain ⟨d0, d1, d2, d3⟩ := hat2
        dsimp only at c0 c1 c2 c3 d0 d1 d2 d3
        have HDIFF : Hid ((⟨ka, ia, pa, ta⟩ : Tw) ≠ ⟨kb, ib, pb, tb⟩ → decide (la = lb) = false) := Lib.hid fun h => decide_eq_false (fun he => h (by have h1 := HG.out.1; rw [he, HG.out.2.1] at h1; injection h1 with h1; exact h1.symm))
        have HSAME : Hid ((⟨ka, ia, pa, ta⟩ : Tw) = ⟨kb, ib, pb, tb⟩ → la.take (k + 1) = lb.take (k + 1)) := Lib.hid fun h => by
          rw [List.take_add_one, List.take_add_one, HG.out.1, HG.out.2.1, HP.out.1, h]
        cases e1 : (ka == kb)
        · have HNE : Hid (decide (la = lb) = false) := Lib.hid (HDIFF.out (fun h => by injection h with h1 h2 h3 h4; rw [h1] at e1; simp at e1))
          have i1 : ((ka : Int) == (kb : Int)) = false := by rw [beq_eq_false_iff_ne]; intro h; have : ka = kb := by omega
                                                             rw [this] at e1; simp at e1
          clear e1
          go_wp2_with fail
          go_quiet (fail)
          go_wp2_with fail
          go_ret
          obtain ⟨q, hq⟩ := HP.out.2
          exact ⟨by rw [HNE.out]; rfl, q + nq, by rw [hq]; exact World.drewN_drewN w q nq⟩
        · cases e2 : (ia == ib)
          · have HNE : Hid (decide (la = lb) = false) := Lib.hid (HDIFF.out (fun h => by injection h with h1 h2 h3 h4; rw [h2] at e2; simp at e2))
            go_wp2_with fail
            go_quiet (fail)
            go_wp2_with fail
            go_ret
            obtain ⟨q, hq⟩ := HP.out.2
            exact ⟨by rw [HNE.out]; rfl, q + nq, by rw [hq]; exact World.drewN_drewN w q nq⟩
          · cases e3 : (pa == pb)
            · have HNE : Hid (decide (la = lb) = false) := Lib.hid (HDIFF.out (fun h => by injection h with h1 h2 h3 h4; rw [h3] at e3; simp at e3))
              go_wp2_with fail
              go_quiet (fail)
              go_wp2_with fail
              go_ret
              obtain ⟨q, hq⟩ := HP.out.2
              exact ⟨by rw [HNE.out]; rfl, q + nq, by rw [hq]; exact World.drewN_drewN w q nq⟩
            · cases e4 : (ta.toList == tb.toList)
              · have HNE : Hid (decide (la = lb) = false) := Lib.hid (HDIFF.out (fun h => by injection h with h1 h2 h3 h4; rw [h4] at e4; simp at e4))
                go_wp2_with fail
                go_quiet (fail)
                go_wp2_with fail
                go_ret
                obtain ⟨q, hq⟩ := HP.out.2
                exact ⟨by rw [HNE.out]; rfl, q + nq, by rw [hq]; exact World.drewN_drewN w q nq⟩
              · have HEQ : Hid (la.take (k + 1) = lb.take (k + 1)) := Lib.hid (HSAME.out (by rw [show ka = kb by simpa using e1, show ia = ib by simpa using e2, show pa = pb by simpa using e3, show ta = tb from T7.bytes_of_list (by simpa using e4)]))
                have q1 : ka = kb := by simpa using e1
                have q2 : ia = ib := by simpa using e2
                have q3 : pa = pb := by simpa using e3
                have q4 : ta = tb := T7.bytes_of_list (by simpa using e4)
                clear e1 e2 e3 e4 HDIFF HSAME
                subst q1; subst q2; subst q3; subst q4
                have e1 : (ta.toList == ta.toList) = true := beq_self_eq_true _
                go_wp2_with fail
                go_quiet (fail)
                go_wp2_with fail
                go_roundw
                case rel =>
                  obtain ⟨q, hq⟩ := HP.out.2
                  exact ⟨k + 1, by go_num, by omega, HEQ.out, q + nq, by rw [hq]; exact World.drewN_drewN w q nq⟩
                case measure => simp [intOf]; omega
      · have HR : Hid (decide (la = lb) = true) := Lib.hid (decide_eq_true (by have h := HP.out.1; rw [List.take_of_length_le (by rw [← HL.out]; omega), List.take_of_length_le (by rw [← HL2.out]; omega)] at h; exact h))
        go_wp2_with fail
        go_ret
        exact ⟨by rw [HR.out]; rfl, HP.out.2⟩
  · have HR : Hid (decide (la = lb) = false) := Lib.hid (decide_eq_false fun h => hnm (by rw [hl, hl2, h]))
    have hne : ((n : Int) != (m : Int)) = true := by
      rw [bne_iff_ne]; omega
    clear hl hl2 hnm ha hb
    go_enter Tryd.func11, Tryd.ntmps11
    go_wp2_with fail
    go_ret
    exact ⟨by rw [HR.out]; rfl, 0, rfl⟩
def ReadPost (w : World) (R : List Tw × Nat × Int) (e : Ending) (w' : World) : Prop :=
  ∃ A n c, e = .returned (.tuple #[.slice A n c, .int .i64 R.2.2]) ∧ Od w w' A n c R.1 ∧ R.1.length ≤ 2048 ∧ Below w.heap.size w w'
set_option maxHeartbeats 4000000 in
theorem read_any (fl : Bool) (s : List UInt8) (hs : s.length ≤ 100000) (w : World) : Calls Tryd.prog 22 #[.string ⟨s.toArray⟩, .bool fl] w (ReadPost w (srcT N0 fl s)) := by
  cases fl with
  | true =>
    have HF := Lib.hid (flow9_any N0 s hs (readF_ne true hs) w)
    generalize srcT N0 _ s = R at *
    obtain ⟨t, q, er⟩ := R
    obtain ⟨st, hst⟩ : ∃ z : ByteArray, z = ⟨s.toArray⟩ := ⟨_, rfl⟩
    rw [← hst] at HF ⊢
    clear hst
    go_enter Tryd.func22, Tryd.ntmps22
    go_wp2_with fail
    refine HF.out.mono ?_
    rintro e w1 ⟨A, n, c, rfl, ho, hl, hb⟩
    have H1 := Lib.hid (And.intro ho (And.intro hl hb))
    clear ho hl hb HF
    go_wp2_with fail
    go_ret2
    exact ⟨A, n, c, rfl, H1.out.1, H1.out.2.1, H1.out.2.2⟩
  | false =>
    have HF := Lib.hid (expr5_any N0 s hs (readF_ne false hs) w)
    generalize srcT N0 _ s = R at *
    obtain ⟨t, q, er⟩ := R
    obtain ⟨st, hst⟩ : ∃ z : ByteArray, z = ⟨s.toArray⟩ := ⟨_, rfl⟩
    rw [← hst] at HF ⊢
    clear hst
    go_enter Tryd.func22, Tryd.ntmps22
    go_wp2_with fail
    refine HF.out.mono ?_
    rintro e w1 ⟨A, n, c, rfl, ho, hl, hb⟩
    have H1 := Lib.hid (And.intro ho (And.intro hl hb))
    clear ho hl hb HF
    go_wp2_with fail
    go_ret2
    exact ⟨A, n, c, rfl, H1.out.1, H1.out.2.1, H1.out.2.2⟩
end Go.Proofs.YtbcadlocldplfaaDoor
namespace Go.Proofs.YtbcadlocldplfaaDoor
open T8
/-! Reading tokens that are the same but for their places. -/
theorem key_same {t : Tok} {x : Tz} (h : T7.tk t = T7.tz (cv x)) : zkey (zOf t) = zkey x := by
  unfold T7.tk T7.tz cv T7.Tz.tx at h
  simp only [Prod.mk.injEq] at h
  unfold zkey zOf
  rw [h.1, h.2.1, h.2.2]
  obtain ⟨k, ⟨⟨tx⟩⟩, iv, p⟩ := x
  rfl
theorem same_keys : ∀ (ks : List Tok) (o : List Tz), ks.map T7.tk = (o.map cv).map T7.tz → SameZ (ks.map zOf) o
  | [], [], _ => rfl
  | [], _ :: _, h => by cases h
  | _ :: _, [], h => by cases h
  | t :: ks, x :: o, h => by
    simp only [List.map_cons, List.cons.injEq] at h
    have ih := same_keys ks o h.2
    unfold SameZ at ih ⊢
    rw [List.map_cons, List.map_cons, List.map_cons, key_same h.1, ih]
theorem same_nil {l : List Tz} (h : SameZ [] l) : l = [] := by
  unfold SameZ at h
  exact List.map_eq_nil_iff.1 h.symm
theorem read_same {fl : Bool} {n : Nat} {a b : List Tz} {t : List Tw} (h : SameZ a b) (hr : readF n fl a = .ok t [] false) : readF n fl b = .ok t [] false := by
  have hg : Gd SameZ (fun _ => False) (fun _ => False) (readF n fl) := by
    cases fl with
    | true => exact Gd.flow SameZ.like n
    | false => exact Gd.all SameZ.like n .expr
  rcases hg.b a b h with ⟨t2, l, l2, m, h1, h2, h3⟩ | ⟨l, l2, h1, h2, h3⟩ | ⟨h1, h2⟩
  · rw [hr] at h1
    injection h1 with e1 e2 e3
    subst e1; subst e2; subst e3
    rw [same_nil h3] at h2
    exact h2
  · rw [hr] at h1; cases h1
  · rw [hr] at h1
    exact h1.elim
theorem read_fuel {fl : Bool} {i : Nat} (hi : N0 ≤ i) {L : List Tz} {X : Pr (List Tw)} (hne : readF N0 fl L ≠ .out) (h : readF i fl L = X) : readF N0 fl L = X := by
  have hle : Le (readF N0 fl L) (readF i fl L) := by
    cases fl with
    | true => exact flowP_le hi L
    | false => exact P_le N0 i hi .expr L
  rw [← h]
  exact (hle.eq hne).symm
theorem shown_expr {T : Tr} (hk : opOf T ≠ 1) : shown T = sh T 1 := by
  obtain ⟨x, ks⟩ := T
  have hk2 : x.op ≠ 1 := hk
  unfold shown
  dsimp only
  rw [if_neg hk2]
theorem shown_read {T : Tr} {may : Nat → Bool} (h : T.ok may) (hk : Kind T) (hl : T.flat.length ≤ 2048) : ∃ m, ∀ i, m ≤ i → readF i (decide (opOf T = 1)) (shown T) = .ok T.flat [] false := by
  have hg := rt_of T may h
  rcases hk with hk | hk
  · obtain ⟨s, ss, b, h1, h2, h3, h4⟩ := hg.2.2.2.2 hk
    rw [decide_eq_true hk]
    rw [h4] at hl ⊢
    exact flow_back h1 h2 h3 rfl hl
  · have hk1 : opOf T ≠ 1 := by
      intro he
      rw [he] at hk
      cases hk
    rw [decide_eq_false hk1]
    obtain ⟨m, hm⟩ := (expr_back (hg.1 hk) hl).at
    refine ⟨m, fun i hi => ?_⟩
    rw [shown_expr hk1]
    exact hm i hi
theorem spelled_len {l : List T7.Tz} (h : (T7.spellL l).2 = 0) : (T7.spellL l).1.length ≤ 16384 := by
  unfold T7.spellL at h ⊢
  split
  · rename_i h1
    rw [if_pos h1] at h
    split at h
    · cases h
    · rename_i h2; rw [if_neg h2]; show (T7.spF false l).length ≤ _; omega
  · simp
theorem gl_ints {o : List Tz} (h : GL o) : ∀ x ∈ o.map cv, x.int ≤ 9223372036854775807 := fun x hx => by
  obtain ⟨y, hy, rfl⟩ := List.mem_map.1 hx
  exact (h y hy).2
theorem spell_err2 {o : List Tz} (h : GL o) : (T7.spellL (o.map cv)).2 = 0 ∨ ((T7.spellL (o.map cv)).2 = 2 ∧ (T7.spellL (o.map cv)).1 = []) := by
  unfold T7.spellL
  have hr : (o.map cv).all T7.rightB = true := by
    rw [List.all_eq_true]
    intro x hx
    obtain ⟨y, hy, rfl⟩ := List.mem_map.1 hx
    exact (h y hy).1
  rw [if_pos hr]
  split
  · exact .inr ⟨rfl, rfl⟩
  · exact .inl rfl
theorem srcT_read {fl : Bool} {s : List UInt8} {t : List Tw} (h0 : (srcL s).2.2 = 0) (hr : readF N0 fl ((srcL s).1.map zOf) = .ok t [] false) (hc : (chk t).2 = 0) : srcT N0 fl s = (t, 0, 0) := by
  unfold srcT
  rw [if_pos h0, hr]
  unfold endT
  simp [hc]
theorem spelled_read {fl : Bool} {o : List Tz} {t : List Tw} (hg : GL o) (hs : (T7.spellL (o.map cv)).2 = 0) {m : Nat} (hr : ∀ i, m ≤ i → readF i fl o = .ok t [] false) (hc : (chk t).2 = 0) : srcT N0 fl (T7.spellL (o.map cv)).1 = (t, 0, 0) := by
  obtain ⟨ks, h1, h2, h3⟩ := T7.back (o.map cv) (gl_ints hg) hs
  have hsame := same_keys ks o h2
  refine srcT_read (by rw [h1]) ?_ hc
  have hne := readF_ne fl (s := (T7.spellL (o.map cv)).1) (by omega)
  rw [h1] at hne ⊢
  refine read_fuel (i := max m N0) (by omega) hne ?_
  exact read_same (by unfold SameZ at hsame ⊢; exact hsame.symm) (hr _ (by omega))
/-! What a source's tokens are. -/
/-! What a reading begins with. -/
end Go.Proofs.YtbcadlocldplfaaDoor
namespace Go.Proofs.YtbcadlocldplfaaDoor
set_option maxRecDepth 100000
open Go.RowKit T8
theorem rdl_of {w : World} {A : Option Addr} {l : List Tw} (h : RdW w A l) : RdL twcell 4 w A l := by
  rcases h with h | ⟨b, off, h1, h2, h3⟩
  · exact .inl h
  · refine .inr ⟨b, off, h1, h2, fun k x hx j v hv => ?_⟩
    obtain ⟨c0, c1, c2, c3⟩ := h3 k x hx
    match j, hv with
    | 0, hv => obtain rfl := Option.some.inj hv; exact c0
    | 1, hv => obtain rfl := Option.some.inj hv; exact c1
    | 2, hv => obtain rfl := Option.some.inj hv; exact c2
    | 3, hv => obtain rfl := Option.some.inj hv; exact c3
    | j + 4, hv => simp [twcell] at hv
set_option maxHeartbeats 16000000 in
theorem showBack_walk (A : Option Addr) (c : Nat) (l : List Tw) (w : World) (hok : ∀ x ∈ l, TwOk x) (hrw : RdW w A l) (hc : l.length ≤ c ∧ c ≤ 9223372036854775807) (htab : Tab w) :
    Calls Tryd.prog 6 #[.slice A l.length c] w fun e w' => e = .returned (.bool true) ∧ Below w.heap.size w w' := by
  have hrd := rdl_of hrw
  have HH := Lib.hid (And.intro hok (And.intro hrd (And.intro hc.1 htab)))
  have HWK := Lib.hid (fun W (hb : Below w.heap.size w W) => wakes10_any W (T7.tab_below htab hb))
  obtain ⟨n, hn⟩ : ∃ n, n = l.length := ⟨_, rfl⟩
  have HN := Lib.hid hn
  have hn9 : n ≤ 9223372036854775807 := by omega
  rw [← hn]
  by_cases hbig : 5000 < n
  · have hd : decide ((5000 : Int) < (n : Int)) = true := decide_eq_true (by omega)
    clear hok hrw hrd hc htab hn
    go_enter Tryd.func6, Tryd.ntmps6
    go_wp2_with fail
    refine (HWK.out w (Below.refl _ _)).mono ?_
    rintro e w1 ⟨rfl, hb1⟩
    have HB := Lib.hid hb1
    clear hb1
    go_wp2_with fail
    go_ret
    exact ⟨rfl, HB.out⟩
  · have hd : decide ((5000 : Int) < (n : Int)) = false := decide_eq_false (by omega)
    have HST := Lib.hid (stree_any A c l w hok hrd hc.1 (by omega) htab)
    have hA : ∀ W, Below w.heap.size w W → ∀ a, A = some a → l ≠ [] → a.block < W.heap.size := by
      intro W hW a ha hl
      rcases hrd with h | ⟨b, off, h1, h2, _⟩
      · exact absurd h hl
      · rw [ha] at h1
        obtain rfl := Option.some.inj h1
        exact Nat.lt_of_lt_of_le h2 hW.size
    have HCK := Lib.hid (fun W (hW : Below w.heap.size w W) => check_any A c l W hok (rdw_of (hrd.below hW)) (by omega) (hA W hW))
    rw [← hn] at HST HCK
    have e1 : ((⟨#[]⟩ : ByteArray).toList == (⟨#[]⟩ : ByteArray).toList) = true := beq_self_eq_true _
    clear hok hrw hrd hc htab hn hA
    go_enter Tryd.func6, Tryd.ntmps6
    go_wp2_with fail
    refine HST.out.mono ?_
    rintro e w1 ⟨o, er, hr, hb1, rfl⟩
    obtain ⟨S, hS⟩ : ∃ S, S = strL o er := ⟨_, rfl⟩
    rw [← hS]
    obtain ⟨ss, e0⟩ := S
    dsimp only
    obtain ⟨st, hst⟩ : ∃ z : ByteArray, z = ⟨ss.toArray⟩ := ⟨_, rfl⟩
    rw [← hst]
    have H1 := Lib.hid (And.intro hr (And.intro hb1 (And.intro hS hst)))
    have HC := Lib.hid (HCK.out w1 hb1)
    clear hr hb1 hS hst HST
    obtain ⟨R, hR⟩ : ∃ R, R = chk l := ⟨_, rfl⟩
    have HR := Lib.hid hR
    rw [← hR] at HC
    obtain ⟨q, f⟩ := R
    dsimp only at HC
    clear hR
    by_cases hf : f = 0
    · subst hf
      have hc0 : (chk l).2 = 0 := by rw [← HR.out]
      rcases H1.out.1 with ⟨g1, _⟩ | ⟨T, g1, _, g3⟩
      · exact absurd hc0 g1
      · have HT := Lib.hid (And.intro g1 hc0)
        obtain ⟨x, r, hx, hop⟩ := head_of g1.2
        have hne : l ≠ [] := by rw [hx]; simp
        have hop9 : x.op < 256 := (HH.out.1 x (by rw [hx]; simp)).1
        have hnpos : 0 < n := by rw [HN.out, hx]; simp
        obtain ⟨b, off, rfl, hb, hat⟩ : ∃ b off, A = some ⟨b, off, none⟩ ∧ b < w.heap.size ∧ ∀ i x, l[i]? = some x → ∀ j v, (twcell x)[j]? = some v → w.cell? ⟨b, off + i * 4 + j, none⟩ = some v := HH.out.2.1.resolve_left hne
        have HK0 : Hid (∀ W, Below w.heap.size w W → W.cell? ⟨b, off, none⟩ = some (.int .u8 (x.op : Nat))) := Lib.hid fun W hW => (hW.cell (p := ⟨b, off, none⟩) hb).trans (by
          have := hat 0 x (by rw [hx]; rfl) 0 _ rfl
          simpa using this)
        have HOP := Lib.hid hop
        obtain ⟨op, kids, iv, tx⟩ := x
        dsimp only at hop9 HOP HK0
        have HEX := Lib.hid (fun W => expression_any op W hop9)
        clear hx hop hat hc0 hne g1
        rcases g3 with ⟨hk, hez, ho⟩ | ⟨hk, he3, ho⟩
        · -- a flow or an expression
          have hS2 : e0 = ((T7.spellL (o.map cv)).2 : Nat) ∧ ss = (T7.spellL (o.map cv)).1 := by
            have := H1.out.2.2.1
            rw [hez] at this
            unfold strL at this
            rw [if_pos rfl] at this
            injection this with h1 h2
            exact ⟨h2, h1⟩
          have hgl : GL o := H1.out.1.gl HH.out.1
          have HG := Lib.hid (And.intro hk (And.intro ho (And.intro hS2 hgl)))
          clear hk hez ho hS2
          rcases spell_err2 hgl with hz | ⟨hz, hz2⟩
          · have he0 : e0 = 0 := by rw [HG.out.2.2.1.1, hz]; rfl
            subst he0
            have HRD : Hid (srcT N0 (decide (opOf T = 1)) ss = (l, 0, 0)) := Lib.hid (by
              rw [HG.out.2.2.1.2]
              obtain ⟨m, hm⟩ := shown_read HT.out.1.1 HG.out.1 (by rw [HT.out.1.2]; exact (chk_fine.1 HT.out.2).1)
              rw [HT.out.1.2] at hm
              exact spelled_read hgl hz (m := m) (fun i hi => by rw [HG.out.2.1]; exact hm i hi) HT.out.2)
            have HLN : Hid (ss.length ≤ 100000) := Lib.hid (by rw [HG.out.2.2.1.2]; have := spelled_len hz; omega)
            have HRA : Hid (∀ (fl : Bool) W, fl = decide (op = 1) → Calls Tryd.prog 22 #[.string st, .bool fl] W (ReadPost W (l, 0, 0))) := Lib.hid (fun fl W hfl => by
              have h1 := read_any fl ss HLN.out W
              rw [← H1.out.2.2.2] at h1
              have h2 : opOf T = op := HOP.out.symm
              rw [h2, ← hfl] at HRD
              rw [HRD.out] at h1
              exact h1)
            clear hz hgl
            have fin : ∀ W A2 n2 c2, Below w.heap.size w W → RdL twcell 4 W A2 l → n2 = n → Calls Tryd.prog 11 #[.slice (some ⟨b, off, none⟩) n c, .slice A2 n2 c2] W fun e w' => e = .returned (.bool true) ∧ ∃ q, w' = W.drewN q := by
              intro W A2 n2 c2 hW h2 hn2
              have h3 := alike_any (some ⟨b, off, none⟩) A2 c c2 n n2 l l W (HH.out.2.1.below hW) h2 HN.out (by rw [hn2]; exact HN.out) (by omega)
              rw [decide_eq_true rfl] at h3
              exact h3
            have HFIN := Lib.hid fin
            clear fin
            by_cases h1 : op = 1
            · subst h1
              go_wp2_with fail
              refine HC.out.mono ?_
              rintro e w2 ⟨rfl, hb2⟩
              have HB2 := Lib.hid (H1.out.2.1.trans (hb2.mono H1.out.2.1.size))
              have k0 := HK0.out w2 HB2.out
              have hbl : b < w2.heap.size := Nat.lt_of_lt_of_le hb HB2.out.size
              clear hb2
              go_wp2_with fail
              refine (HRA.out true w2 rfl).mono ?_
              rintro e w3 ⟨A3, n3, c3, rfl, ho3, hl3, hb3⟩
              have H3 := Lib.hid (And.intro ho3 (HB2.out.trans (hb3.mono HB2.out.size)))
              clear ho3 hl3 hb3 k0
              go_wp2_with fail
              refine (HFIN.out w3 A3 n3 c3 H3.out.2 H3.out.1.rd (H3.out.1.len.trans HN.out.symm)).mono ?_
              rintro e w4 ⟨rfl, nq, rfl⟩
              have H4 : Hid (Below w.heap.size w (w3.drewN nq)) := Lib.hid (below_drewN H3.out.2 nq)
              generalize w3.drewN nq = w4 at *
              go_wp2_with fail
              refine (HWK.out w4 H4.out).mono ?_
              rintro e w5 ⟨rfl, hb5⟩
              have H5 := Lib.hid (H4.out.trans (hb5.mono H4.out.size))
              clear hb5
              go_wp2_with fail
              go_ret
              exact ⟨rfl, H5.out⟩
            · have hne1 : ((op : Int) == 1) = false := by rw [beq_eq_false_iff_ne]; omega
              have hex : exprB op = true := by
                rcases HG.out.1 with h | h
                · exact absurd (HOP.out.trans h) h1
                · rw [HOP.out]; exact h
              rw [hex] at HEX
              have HO1 := Lib.hid h1
              clear hex h1
              go_wp2_with fail
              refine HC.out.mono ?_
              rintro e w2 ⟨rfl, hb2⟩
              have HB2 := Lib.hid (H1.out.2.1.trans (hb2.mono H1.out.2.1.size))
              have k0 := HK0.out w2 HB2.out
              have hbl : b < w2.heap.size := Nat.lt_of_lt_of_le hb HB2.out.size
              clear hb2
              go_wp2_with fail
              refine (HEX.out w2).mono ?_
              rintro e w2' ⟨rfl, hw⟩
              rw [hw]
              clear hw w2'
              go_wp2_with fail
              refine (HRA.out false w2 (decide_eq_false HO1.out).symm).mono ?_
              rintro e w3 ⟨A3, n3, c3, rfl, ho3, hl3, hb3⟩
              have H3 := Lib.hid (And.intro ho3 (HB2.out.trans (hb3.mono HB2.out.size)))
              clear ho3 hl3 hb3 k0
              go_wp2_with fail
              refine (HFIN.out w3 A3 n3 c3 H3.out.2 H3.out.1.rd (H3.out.1.len.trans HN.out.symm)).mono ?_
              rintro e w4 ⟨rfl, nq, rfl⟩
              have H4 : Hid (Below w.heap.size w (w3.drewN nq)) := Lib.hid (below_drewN H3.out.2 nq)
              generalize w3.drewN nq = w4 at *
              go_wp2_with fail
              refine (HWK.out w4 H4.out).mono ?_
              rintro e w5 ⟨rfl, hb5⟩
              have H5 := Lib.hid (H4.out.trans (hb5.mono H4.out.size))
              clear hb5
              go_wp2_with fail
              go_ret
              exact ⟨rfl, H5.out⟩
          · have he0 : e0 = 2 := by rw [HG.out.2.2.1.1, hz]; rfl
            subst he0
            have hst : st = ⟨#[]⟩ := by rw [H1.out.2.2.2, HG.out.2.2.1.2, hz2]
            subst hst
            clear hz hz2 hgl
            by_cases h1 : op = 1
            · subst h1
              go_wp2_with fail
              refine HC.out.mono ?_
              rintro e w2 ⟨rfl, hb2⟩
              have HB2 := Lib.hid (H1.out.2.1.trans (hb2.mono H1.out.2.1.size))
              have k0 := HK0.out w2 HB2.out
              have hbl : b < w2.heap.size := Nat.lt_of_lt_of_le hb HB2.out.size
              clear hb2
              go_wp2_with fail
              refine (HWK.out w2 HB2.out).mono ?_
              rintro e w5 ⟨rfl, hb5⟩
              have H5 := Lib.hid (HB2.out.trans (hb5.mono HB2.out.size))
              clear hb5
              go_wp2_with fail
              go_ret
              exact ⟨rfl, H5.out⟩
            · have hne1 : ((op : Int) == 1) = false := by rw [beq_eq_false_iff_ne]; omega
              have hex : exprB op = true := by
                rcases HG.out.1 with h | h
                · exact absurd (HOP.out.trans h) h1
                · rw [HOP.out]; exact h
              rw [hex] at HEX
              clear hex h1
              go_wp2_with fail
              refine HC.out.mono ?_
              rintro e w2 ⟨rfl, hb2⟩
              have HB2 := Lib.hid (H1.out.2.1.trans (hb2.mono H1.out.2.1.size))
              have k0 := HK0.out w2 HB2.out
              have hbl : b < w2.heap.size := Nat.lt_of_lt_of_le hb HB2.out.size
              clear hb2
              go_wp2_with fail
              refine (HEX.out w2).mono ?_
              rintro e w2' ⟨rfl, hw⟩
              rw [hw]
              clear hw w2'
              go_wp2_with fail
              refine (HWK.out w2 HB2.out).mono ?_
              rintro e w5 ⟨rfl, hb5⟩
              have H5 := Lib.hid (HB2.out.trans (hb5.mono HB2.out.size))
              clear hb5
              go_wp2_with fail
              go_ret
              exact ⟨rfl, H5.out⟩
        · -- neither
          have hS2 : e0 = 3 ∧ ss = [] := by
            have := H1.out.2.2.1
            rw [he3] at this
            unfold strL at this
            rw [if_neg (by decide)] at this
            injection this with h1 h2
            exact ⟨h2, h1⟩
          obtain ⟨he0, hss⟩ := hS2
          subst he0
          have hst : st = ⟨#[]⟩ := by rw [H1.out.2.2.2, hss]
          subst hst
          have h1 : op ≠ 1 := fun h => hk (.inl (by rw [← HOP.out]; exact h))
          have hne1 : ((op : Int) == 1) = false := by rw [beq_eq_false_iff_ne]; omega
          have hex : exprB op = false := by
            cases hh : exprB op with
            | false => rfl
            | true => exact absurd (.inr (by rw [← HOP.out]; exact hh)) hk
          rw [hex] at HEX
          clear hex h1 hss hk he3 ho
          go_wp2_with fail
          refine HC.out.mono ?_
          rintro e w2 ⟨rfl, hb2⟩
          have HB2 := Lib.hid (H1.out.2.1.trans (hb2.mono H1.out.2.1.size))
          have k0 := HK0.out w2 HB2.out
          have hbl : b < w2.heap.size := Nat.lt_of_lt_of_le hb HB2.out.size
          clear hb2
          go_wp2_with fail
          refine (HEX.out w2).mono ?_
          rintro e w2' ⟨rfl, hw⟩
          rw [hw]
          clear hw w2'
          go_wp2_with fail
          refine (HWK.out w2 HB2.out).mono ?_
          rintro e w5 ⟨rfl, hb5⟩
          have H5 := Lib.hid (HB2.out.trans (hb5.mono HB2.out.size))
          clear hb5
          go_wp2_with fail
          go_ret
          exact ⟨rfl, H5.out⟩
    · have hS2 : e0 = f ∧ ss = [] := by
        have hc0 : (chk l).2 = f := by rw [← HR.out]
        rcases H1.out.1 with ⟨_, g2, g3⟩ | ⟨T, _, g2, _⟩
        · have := H1.out.2.2.1
          rw [g2, hc0] at this
          unfold strL at this
          rw [if_neg hf] at this
          injection this with h1 h2
          exact ⟨h2, h1⟩
        · exact absurd (hc0.symm.trans g2) hf
      obtain ⟨he0, hss⟩ := hS2
      subst he0
      have hst : st = ⟨#[]⟩ := by rw [H1.out.2.2.2, hss]
      subst hst
      have hne : (e0 != 0) = true := by simpa using hf
      have hee : (e0 == e0) = true := beq_self_eq_true _
      clear hf hss
      go_wp2_with fail
      refine HC.out.mono ?_
      rintro e w2 ⟨rfl, hb2⟩
      have HB2 := Lib.hid (H1.out.2.1.trans (hb2.mono H1.out.2.1.size))
      clear hb2
      go_wp2_with fail
      refine (HWK.out w2 HB2.out).mono ?_
      rintro e w5 ⟨rfl, hb5⟩
      have H5 := Lib.hid (HB2.out.trans (hb5.mono HB2.out.size))
      clear hb5
      go_wp2_with fail
      go_ret
      exact ⟨rfl, H5.out⟩
end Go.Proofs.YtbcadlocldplfaaDoor
