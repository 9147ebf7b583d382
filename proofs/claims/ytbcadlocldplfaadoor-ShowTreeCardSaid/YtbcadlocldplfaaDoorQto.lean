/- Plain law: how many tokens a right tree is shown as; what is shown of twigs. No program in sight. And what follows from it. -/
import Derived.Laws.CopyOwn
import Derived.Test.YtbcadlocldplfaaDoorQte
import Derived.Test.YtbcadlocldplfaaDoorQth
import Derived.Test.YtbcadlocldplfaaDoorQtk
import Derived.Test.YtbcadlocldplfaaDoorQtn
import Derived.Test.YtbcadlocldplfaaDoorQt0
set_option maxHeartbeats 16000000
set_option linter.unusedSimpArgs false
set_option linter.unusedVariables false
namespace Go.Proofs.YtbcadlocldplfaaDoor
open Go.Proofs.Tryd
open T8
def Few (a : Nat) (T : Tr) : Prop := (sh T a).length + 1 <= 8 * T.flat.length
theorem few_br {x : Tw} {ks : List Tr} {n : Nat} (hl : (bareS x (shs ks)).length <= n) (hn : n + 3 <= 8 * (Tr.node x ks).flat.length) {a : Nat} (ha : a <= 9) : Few a (.node x ks) := by
 unfold Few
 rw [sh_expr x ks ha]
 split
 . rw [lnc, lna, List.length_singleton]; omega
 . omega
theorem few_commas {m : Nat} : ∀ {ks : List Tr}, (∀ k ∈ ks, Few m k) -> (commas m (shs ks)).length <= 8 * (flats ks).length
 | [], _ => by rw [shs, commas]; exact Nat.zero_le _
 | [k], h => by
  have := h k (by simp)
  unfold Few at this
  rw [shs, shs, commas, flats, lna]; omega
 | k :: j :: ks, h => by
  have h1 := h k (by simp)
  have h2 := few_commas (ks := j :: ks) (m := m) (fun i hi => h i (by simp [hi]))
  unfold Few at h1
  rw [show shs (k :: j :: ks) = sh k :: sh j :: shs ks from by rw [shs, shs], commas, flats, lna, lnc, lna]
  rw [show shs (j :: ks) = sh j :: shs ks from by rw [shs]] at h2
  omega
theorem few_all {m : Nat} : ∀ {ks : List Tr}, (∀ k ∈ ks, Few m k) -> (allS m (shs ks)).length <= 8 * (flats ks).length
 | [], _ => by rw [shs]; exact Nat.zero_le _
 | k :: ks, h => by
  have h1 := h k (by simp)
  have h2 := few_all (ks := ks) (m := m) (fun i hi => h i (by simp [hi]))
  unfold Few at h1
  unfold allS at h2 |-
  rw [shs, List.flatMap_cons, lna, flats, lna]
  omega
theorem lis_few {o e : List UInt8} {ks : List Tr} (h : ∀ k ∈ ks, Few 1 k) : (lisS o (shs ks) e).length <= 8 * (flats ks).length + 2 := by
 have := few_commas h
 unfold lisS
 rw [lnc, lna, List.length_singleton]
 omega
theorem fl1 (k : Tr) : (flats [k]).length = k.flat.length := by simp [flats]
theorem fl2 (k j : Tr) : (flats [k, j]).length = k.flat.length + j.flat.length := by simp [flats]
theorem fl3 (k j i : Tr) : (flats [k, j, i]).length = k.flat.length + (j.flat.length + i.flat.length) := by simp [flats]
theorem fln (x : Tw) (ks : List Tr) : (Tr.node x ks).flat.length = (flats ks).length + 1 := by rw [Tr.flat, lnc]
theorem shs1 (k : Tr) : shs [k] = [sh k] := by rw [shs, shs]
theorem shs2 (k j : Tr) : shs [k, j] = [sh k, sh j] := by rw [shs, shs, shs]
theorem shs3 (k j i : Tr) : shs [k, j, i] = [sh k, sh j, sh i] := by rw [shs, shs, shs, shs]
theorem mem_one {P : Tr -> Prop} {k : Tr} (h : P k) : ∀ x ∈ [k], P x := by
 intro x hx
 rw [List.mem_singleton.1 hx]; exact h
theorem mem_duo {P : Tr -> Prop} {k j : Tr} (h : P k) (h2 : P j) : ∀ x ∈ [k, j], P x := by
 intro x hx
 simp only [List.mem_cons, List.not_mem_nil, or_false] at hx
 rcases hx with rfl | rfl
 . exact h
 . exact h2
theorem few_any {kd : Nat} {t : Tr} (h : Rt kd t) : (kd = 0 -> ∀ a, a <= 9 -> Few a t) ∧ (kd = 1 -> Few 10 t) ∧ (kd = 2 -> Few 11 t) := by
 induction h with
 | @word op ho =>
  refine ⟨fun _ a ha => few_br (n := 1) ?_ (by rw [fln]; omega) ha, fun h => (by cases h), fun h => (by cases h)⟩
  rcases ho with rfl | rfl | rfl | rfl <;> exact nlr _
 | int i => exact ⟨fun _ a ha => few_br (n := 1) (nlr _) (by rw [fln]; omega) ha, fun h => (by cases h), fun h => (by cases h)⟩
 | text s => exact ⟨fun _ a ha => few_br (n := 1) (nlr _) (by rw [fln]; omega) ha, fun h => (by cases h), fun h => (by cases h)⟩
 | name hs => exact ⟨fun _ a ha => few_br (n := 1) (nlr _) (by rw [fln]; omega) ha, fun h => (by cases h), fun h => (by cases h)⟩
 | take hs => exact ⟨fun _ a ha => few_br (n := 2) (nlr _) (by rw [fln]; omega) ha, fun h => (by cases h), fun h => (by cases h)⟩
 | @list ks h ih =>
  refine ⟨fun _ a ha => few_br (n := 8 * (flats ks).length + 2) ?_ (by rw [fln]; omega) ha, fun h => (by cases h), fun h => (by cases h)⟩
  show (lisS [91] (shs ks) [93]).length <= _
  exact lis_few fun k hk => (ih k hk).1 rfl 1 (by omega)
 | @call op s ks ho hs h ih =>
  refine ⟨fun _ a ha => few_br (n := 8 * (flats ks).length + 4) ?_ (by rw [fln]; omega) ha, fun h => (by cases h), fun h => (by cases h)⟩
  have h1 := lis_few (o := [40]) (e := [41]) (fun k hk => (ih k hk).1 rfl 1 (by omega))
  rcases ho with rfl | rfl
  . show (wd [99, 97, 108, 108] :: wt s :: lisS [40] (shs ks) [41]).length <= _
    rw [lnc, lnc]; omega
  . show (wd [99, 104, 105, 108, 100] :: wt s :: lisS [40] (shs ks) [41]).length <= _
    rw [lnc, lnc]; omega
 | @one op k ho h ih =>
  refine ⟨fun _ a ha => few_br (n := 8 * (flats [k]).length + 3) ?_ (by rw [fln]; omega) ha, fun h => (by cases h), fun h => (by cases h)⟩
  have h1 := lis_few (o := [40]) (e := [41]) (mem_one (ih.1 rfl 1 (by omega)))
  have e : bareS ⟨op, 1, 0, bs []⟩ (shs [k]) = oneT op :: lisS [40] (shs [k]) [41] := by rcases ho with rfl | rfl | rfl | rfl | rfl <;> rfl
  rw [e, lnc]; omega
 | @num k j h h2 ih ih2 =>
  refine ⟨fun _ a ha => few_br (n := 8 * (flats [k, j]).length + 3) ?_ (by rw [fln]; omega) ha, fun h => (by cases h), fun h => (by cases h)⟩
  have h1 := lis_few (o := [40]) (e := [41]) (mem_duo (ih.1 rfl 1 (by omega)) (ih2.1 rfl 1 (by omega)))
  show (oneT 41 :: lisS [40] (shs [k, j]) [41]).length <= _
  rw [lnc]; omega
 | @fork k h ih =>
  refine ⟨fun _ a ha => few_br (n := 8 * (flats [k]).length) ?_ (by rw [fln]; omega) ha, fun h => (by cases h), fun h => (by cases h)⟩
  have h1 := ih.2.1 rfl
  unfold Few at h1
  rw [shs1, fl1]
  show (wd [102, 111, 114, 107] :: sh k 10).length <= _
  rw [lnc]; omega
 | @not k h ih =>
  refine ⟨fun _ a ha => few_br (n := 8 * (flats [k]).length) ?_ (by rw [fln]; omega) ha, fun h => (by cases h), fun h => (by cases h)⟩
  have h1 := ih.1 rfl 3 (by omega)
  unfold Few at h1
  rw [shs1, fl1]
  show (wd [110, 111, 116] :: sh k 3).length <= _
  rw [lnc]; omega
 | @pre op k ho h ih =>
  refine ⟨fun _ a ha => few_br (n := 8 * (flats [k]).length) ?_ (by rw [fln]; omega) ha, fun h => (by cases h), fun h => (by cases h)⟩
  have h1 := ih.1 rfl 7 (by omega)
  unfold Few at h1
  rw [shs1, fl1]
  rcases ho with rfl | rfl | rfl
  . show (sg [45] :: sh k 7).length <= _
    rw [lnc]; omega
  . show (wd [97, 119, 97, 105, 116] :: sh k 7).length <= _
    rw [lnc]; omega
  . show (wd [115, 101, 116, 116, 108, 101] :: sh k 7).length <= _
    rw [lnc]; omega
 | @at_ k j h h2 ih ih2 =>
  refine ⟨fun _ a ha => few_br (n := 8 * (flats [k, j]).length) ?_ (by rw [fln]; omega) ha, fun h => (by cases h), fun h => (by cases h)⟩
  have h1 := ih.1 rfl 8 (by omega)
  have h2 := ih2.1 rfl 1 (by omega)
  unfold Few at h1 h2
  rw [shs2, fl2]
  show (sh k 8 ++ sg [91] :: (sh j 1 ++ [sg [93]])).length <= _
  rw [lna, lnc, lna, List.length_singleton]; omega
 | @cmp op k j ho h h2 ih ih2 =>
  refine ⟨fun _ a ha => few_br (n := 8 * (flats [k, j]).length) ?_ (by rw [fln]; omega) ha, fun h => (by cases h), fun h => (by cases h)⟩
  have h1 := ih.1 rfl 5 (by omega)
  have h2 := ih2.1 rfl 5 (by omega)
  unfold Few at h1 h2
  rw [shs2, fl2]
  have e : bareS ⟨op, 2, 0, bs []⟩ [sh k, sh j] = sh k 5 ++ midT op :: sh j 5 := by
   have : op = 32 ∨ op = 33 ∨ op = 34 ∨ op = 35 := by omega
   rcases this with rfl | rfl | rfl | rfl <;> rfl
  rw [e, lna, lnc]; omega
 | @bin op k j ho h h2 ih ih2 =>
  refine ⟨fun _ a ha => few_br (n := 8 * (flats [k, j]).length) ?_ (by rw [fln]; omega) ha, fun h => (by cases h), fun h => (by cases h)⟩
  have hw : width op <= 6 := by
   have : op = 30 ∨ op = 31 ∨ op = 36 ∨ op = 37 ∨ op = 38 ∨ op = 39 ∨ op = 40 := by omega
   rcases this with rfl | rfl | rfl | rfl | rfl | rfl | rfl <;> decide
  have h1 := ih.1 rfl (width op) (by omega)
  have h2 := ih2.1 rfl (width op + 1) (by omega)
  unfold Few at h1 h2
  rw [shs2, fl2]
  have e : bareS ⟨op, 2, 0, bs []⟩ [sh k, sh j] = sh k (width op) ++ midT op :: sh j (width op + 1) := by
   have : op = 30 ∨ op = 31 ∨ op = 36 ∨ op = 37 ∨ op = 38 ∨ op = 39 ∨ op = 40 := by omega
   rcases this with rfl | rfl | rfl | rfl | rfl | rfl | rfl <;> rfl
  rw [e, lna, lnc]; omega
 | @block ks h ih =>
  refine ⟨fun h => (by cases h), fun _ => ?_, fun h => (by cases h)⟩
  have h1 := few_all (m := 11) (fun k hk => (ih k hk).2.2 rfl)
  unfold Few
  rw [sh_node, fln]
  show (blockS (shs ks)).length + 1 <= _
  unfold blockS
  rw [lnc, lna, List.length_singleton]; omega
 | @put op s k ho hs h ih =>
  refine ⟨fun h => (by cases h), fun h => (by cases h), fun _ => ?_⟩
  have h1 := ih.1 rfl 1 (by omega)
  unfold Few at h1 |-
  rw [sh_node, fln, shs1, fl1]
  rcases ho with rfl | rfl
  . show (wd [108, 101, 116] :: wt s :: sg [61] :: sh k 1).length + 1 <= _
    rw [lnc, lnc, lnc]; omega
  . show (wt s :: sg [61] :: sh k 1).length + 1 <= _
    rw [lnc, lnc]; omega
 | @if2 k j h h2 ih ih2 =>
  refine ⟨fun h => (by cases h), fun h => (by cases h), fun _ => ?_⟩
  have h1 := ih.1 rfl 1 (by omega)
  have h2 := ih2.2.1 rfl
  unfold Few at h1 h2 |-
  rw [sh_node, fln, shs2, fl2]
  show (wd [105, 102] :: (sh k 1 ++ (sh j 10 ++ []))).length + 1 <= _
  rw [lnc, lna, lna, lnn]; omega
 | @if3 k j i h h2 h3 ih ih2 ih3 =>
  refine ⟨fun h => (by cases h), fun h => (by cases h), fun _ => ?_⟩
  have h1 := ih.1 rfl 1 (by omega)
  have h2 := ih2.2.1 rfl
  have h3 := ih3.2.1 rfl
  unfold Few at h1 h2 h3 |-
  rw [sh_node, fln, shs3, fl3]
  show (wd [105, 102] :: (sh k 1 ++ (sh j 10 ++ wd [101, 108, 115, 101] :: sh i 10))).length + 1 <= _
  rw [lnc, lna, lna, lnc]; omega
 | @while_ k j h h2 ih ih2 =>
  refine ⟨fun h => (by cases h), fun h => (by cases h), fun _ => ?_⟩
  have h1 := ih.1 rfl 1 (by omega)
  have h2 := ih2.2.1 rfl
  unfold Few at h1 h2 |-
  rw [sh_node, fln, shs2, fl2]
  show (wd [119, 104, 105, 108, 101] :: (sh k 1 ++ sh j 10)).length + 1 <= _
  rw [lnc, lna]; omega
 | @do_ op k ho h ih =>
  refine ⟨fun h => (by cases h), fun h => (by cases h), fun _ => ?_⟩
  have h1 := ih.1 rfl 1 (by omega)
  unfold Few at h1 |-
  rw [sh_node, fln, shs1, fl1]
  have : op = 8 ∨ op = 9 ∨ op = 10 ∨ op = 11 := by omega
  rcases this with rfl | rfl | rfl | rfl
  . show (wd [114, 101, 116, 117, 114, 110] :: sh k 1).length + 1 <= _
    rw [lnc]; omega
  . show (wd [102, 97, 105, 108] :: sh k 1).length + 1 <= _
    rw [lnc]; omega
  . show (wd [115, 108, 101, 101, 112] :: sh k 1).length + 1 <= _
    rw [lnc]; omega
  . show (wd [100, 111] :: sh k 1).length + 1 <= _
    rw [lnc]; omega
def Kind (T : Tr) : Prop := opOf T = 1 ∨ exprB (opOf T) = true
theorem few_shown {T : Tr} {may : Nat -> Bool} (h : T.ok may) (hk : Kind T) : (shown T).length + 1 <= 8 * T.flat.length + 8 := by
 have hg := rt_of T may h
 obtain ⟨x, ks⟩ := T
 unfold shown
 rcases hk with hk | hk
 . have hk1 : x.op = 1 := hk
   dsimp only
   rw [if_pos hk1]
   obtain ⟨s, ss, b, h1, h2, h3, h4⟩ := hg.2.2.2.2 hk
   rw [h4, sh_node]
   show (flowS _ _).length + 1 <= _
   unfold flowS
   have e1 : shs (ss.map nameT ++ [b]) = shs (ss.map nameT) ++ [sh b] := by rw [shs_map, shs_map, List.map_append]; rfl
   have e2 : nthS (shs (ss.map nameT) ++ [sh b]) ((shs (ss.map nameT) ++ [sh b]).length - 1) 10 = sh b 10 := by
    unfold nthS
    rw [lna, List.length_singleton, Nat.add_sub_cancel, List.getElem?_append_right (nlr _), Nat.sub_self]
    rfl
   rw [e1, List.dropLast_concat, e2, fln, flats_append, lna, fl1]
   have hn : ∀ k ∈ ss.map nameT, Few 12 k := by
    intro k hk
    obtain ⟨s, _, rfl⟩ := List.mem_map.1 hk
    unfold Few nameT
    rw [sh_node]
    show 1 + 1 <= _
    rw [fln]; omega
   have h5 := few_commas hn
   have h6 := (few_any h3).2.1 rfl
   unfold Few at h6
   simp only [lnc, lna]
   omega
 . have hk1 : x.op ≠ 1 := by
    intro he
    have hk2 : exprB x.op = true := hk
    rw [he] at hk2
    cases hk2
   dsimp only
   rw [if_neg hk1]
   have h6 := (few_any (hg.1 hk)).1 rfl 1 (by omega)
   unfold Few at h6
   omega
end Go.Proofs.YtbcadlocldplfaaDoor
namespace Go.Proofs.YtbcadlocldplfaaDoor
open Go.Proofs.Tryd
set_option maxRecDepth 100000
open Go.RowKit T8
def ShowR (l : List Tw) (o : List Tz) (er : Int) : Prop :=
 ((chk l).2 ≠ 0 ∧ er = (chk l).2 ∧ o = []) ∨ ∃ T, Right l T ∧ (chk l).2 = 0 ∧ ((Kind T ∧ er = 0 ∧ o = shown T) ∨ (¬ Kind T ∧ er = 3 ∧ o = []))
theorem right_one {l : List Tw} {T U : Tr} (h : Right l T) (h2 : Right l U) : T = U :=
 (wf_same T U [] [] (wf_ok T _ h.1) (wf_ok U _ h2.1) (by rw [List.append_nil, List.append_nil, h.2, h2.2])).1
theorem ShowR.one {l : List Tw} {o o2 : List Tz} {er er2 : Int} (h : ShowR l o er) (h2 : ShowR l o2 er2) : o = o2 ∧ er = er2 := by
 rcases h with ⟨a1, a2, a3⟩ | ⟨T, a1, a2, a3⟩
 . rcases h2 with ⟨b1, b2, b3⟩ | ⟨U, b1, b2, b3⟩
   . exact ⟨a3.trans b3.symm, a2.trans b2.symm⟩
   . exact absurd b2 a1
 . rcases h2 with ⟨b1, b2, b3⟩ | ⟨U, b1, b2, b3⟩
   . exact absurd a2 b1
   . obtain rfl := right_one a1 b1
     rcases a3 with ⟨c1, c2, c3⟩ | ⟨c1, c2, c3⟩ <;> rcases b3 with ⟨d1, d2, d3⟩ | ⟨d1, d2, d3⟩
     . exact ⟨c3.trans d3.symm, c2.trans d2.symm⟩
     . exact absurd c1 d1
     . exact absurd d1 c1
     . exact ⟨c3.trans d3.symm, c2.trans d2.symm⟩
theorem ShowR.few {l : List Tw} {o : List Tz} {er : Int} (h : ShowR l o er) : o.length <= 16400 := by
 rcases h with ⟨_, _, h⟩ | ⟨T, h1, h2, ⟨h3, _, h4⟩ | ⟨_, _, h4⟩⟩
 . rw [h]; exact Nat.zero_le _
 . rw [h4]
   have h5 := few_shown h1.1 h3
   have h6 := (chk_fine.1 h2).1
   rw [h1.2] at h5
   omega
 . rw [h4]; exact Nat.zero_le _
def TokPost (w : World) (l : List Tw) (e : Ending) (w' : World) : Prop :=
 ∃ A n c o er, e = .returned (.tuple #[.slice A n c, .int .i64 er]) ∧ n = o.length ∧ w'.ownsRow w.heap.size 35 4 (.slice A n c) n (rowOf zcell o) ∧ Below w.heap.size w w' ∧ ShowR l o er
theorem head_of {l : List Tw} {T : Tr} (h : T.flat = l) : ∃ x r, l = x :: r ∧ x.op = opOf T := by
 obtain ⟨x, ks⟩ := T
 exact ⟨x, flats ks, by rw [<- h, Tr.flat], rfl⟩
theorem wrm_new {w : World} {A : Option Addr} {c : Nat} {l : List Tw} (h : RdL twcell 4 w A l) (hc : l.length <= c) (hA : ∀ a, A = some a -> a.block < w.heap.size) : WrM (w.alloc (.cells #[.slice A l.length c, .slice none 0 0] 53)) w.heap.size l [] := by
 refine ⟨A, c, none, 0, Blk.new w 53 _, h.chg (T := fun _ => False) (.of_below ((Below.refl _ _).alloc (nlr _) _)) (fun _ _ _ h => h.elim), hc, hA, ?_⟩
 exact World.ownsRow_nil _ _ _ _
theorem tokens_any (A : Option Addr) (c : Nat) (l : List Tw) (w : World) (hok : ∀ x ∈ l, TwOk x) (hrd : RdL twcell 4 w A l) (hc : l.length <= c) (hlen : l.length <= 100000) :
 Calls prog 12 #[.slice A l.length c] w (TokPost w l) := by
 have hA : ∀ a, A = some a -> l ≠ [] -> a.block < w.heap.size := by
  intro a ha hl
  rcases hrd with h | ⟨b, off, h1, h2, _⟩
  . exact absurd h hl
  . rw [ha] at h1
    obtain rfl := Option.some.inj h1
    exact h2
 have HC := zh (check_any A c l w hok (rdw_of hrd) (by omega) hA)
 have HH := zh (ai hok (ai hrd (ai hc hA)))
 obtain ⟨R, hR⟩ := ex (chk l)
 have HR := zh hR
 rw [<- hR] at HC
 obtain ⟨q, er⟩ := R
 obtain ⟨n, hn⟩ := ex l.length
 have HN := zh hn
 rw [<- hn] at HC |-
 dsimp only at HC
 clear hok hrd hc hA hR hn
 by_cases h0 : er = 0
 . subst h0
   have HF : Hid (∃ T, Right l T ∧ (chk l).2 = 0) := zh (by
    have h1 : (chk l).2 = 0 := by rw [<- HR.out]
    obtain ⟨_, T, h2, _⟩ := chk_fine.1 h1
    exact ⟨T, h2, h1⟩)
   obtain ⟨T, HT⟩ : ∃ T, Hid (Right l T ∧ (chk l).2 = 0) := HF.out
   obtain ⟨x, r, hx, hop⟩ := head_of HT.out.1.2
   have HX := zh (ai hx hop)
   have hnpos : 0 < n := by rw [HN.out, hx]; simp
   have hAb : ∃ b off, A = some ⟨b, off, none⟩ ∧ b < w.heap.size ∧ ∀ i x, l[i]? = some x -> ∀ j v, (twcell x)[j]? = some v -> w.cell? ⟨b, off + i * 4 + j, none⟩ = some v := by
    rcases HH.out.2.1 with h | h
    . rw [hx] at h; cases h
    . exact h
   obtain ⟨b, off, rfl, hb, hat⟩ := hAb
   have k0 : w.cell? ⟨b, off, none⟩ = some (.int .u8 (x.op : Nat)) := by
    have := hat 0 x (by rw [hx]; rfl) 0 _ rfl
    simpa using this
   have hop9 : x.op < 256 := (HH.out.1 x (by rw [hx]; simp)).1
   obtain ⟨op, kids, iv, tx⟩ := x
   dsimp only at k0 hop9 hop
   have HLE : Hid (Kind T -> (shown T).length <= 16400) := zh (fun hk => by
    have h5 := few_shown HT.out.1.1 hk
    have h6 := (chk_fine.1 HT.out.2).1
    rw [HT.out.1.2] at h5
    omega)
   have hlt1 : ∀ w1 : World, Below w.heap.size w w1 -> w1.cell? ⟨b, off, none⟩ = some (.int .u8 (op : Nat)) ∧ b < w1.heap.size := fun w1 h1 => ⟨(h1.cell (p := ⟨b, off, none⟩) hb).trans k0, Nat.lt_of_lt_of_le hb h1.size⟩
   have HL1 := zh hlt1
   have HOP := zh hop
   clear hx hat k0 hlt1 hop
   by_cases h1 : op = 1
   . subst h1
     go_in
     go_wp2_with fail
     refine HC.out.mono ?_
     rintro e w1 ⟨rfl, hb1⟩
     have HB1 := zh hb1
     have k1 := (HL1.out w1 hb1).1
     have hb1' := (HL1.out w1 hb1).2
     have HW : Hid (WrM (w1.alloc (.cells #[.slice (some ⟨b, off, none⟩) n c, .slice none 0 0] 53)) w1.heap.size l []) := zh (by
      rw [HN.out]
      exact wrm_new (HH.out.2.1.below hb1) HH.out.2.2.1 (fun a ha => by obtain rfl := Option.some.inj ha; exact hb1'))
     have HWB : Hid (Below w.heap.size w1 (w1.alloc (.cells #[.slice (some ⟨b, off, none⟩) n c, .slice none 0 0] 53))) := zh (((Below.refl _ _).alloc (nlr _) _).mono hb1.size)
     clear hb1
     go_wp2_with fail
     obtain ⟨s, ss, bt, g1, g2, g3, g4⟩ := (rt_of T _ HT.out.1.1).2.2.2.2 HOP.out.symm
     have HG := zh (ai g1 (ai g2 (ai g3 g4)))
     have hsz : bt.flat.length <= 100000 ∧ ss.length <= 100000 := by
      have h5 := HT.out.1.2
      rw [g4] at h5
      have h6 : l.length <= 100000 := hlen
      rw [<- h5, Tr.flat, lnc, flats_append, lna] at h6
      have h7 : bt.flat.length = (flats [bt]).length := by simp [flats]
      have h8 : ∀ ks : List Tr, ks.length <= (flats ks).length := by
       intro ks
       induction ks with
       | nil => exact nlr _
       | cons k ks ih => have := flat_pos k; rw [flats, lna, lnc]; omega
      have h9 := h8 (ss.map nameT)
      rw [List.length_map] at h9
      omega
     have HSH : Hid (sh (.node ⟨1, ((ss.length + 1 : Nat) : Int), 0, s⟩ (ss.map nameT ++ [bt])) 13 = shown T) := zh (by rw [g4]; rfl)
     clear g1 g2 g3 g4
     generalize w1.alloc _ = wa at *
     have hgs : w1.heap.size < wa.heap.size := HW.out.lt
     refine (wflow_any 100000 (nlr _) s ss bt ⟨HG.out.2.2.1, hsz.1⟩ hsz.2 w1.heap.size [] [] wa (by rw [<- HG.out.2.2.2, HT.out.1.2, List.append_nil]; exact HW.out) (by rw [HSH.out]; have := HLE.out (.inl HOP.out.symm); simp only [lnn]; omega)).mono ?_
     rintro e w2 ⟨rfl, hk2, hm2⟩
     obtain ⟨Ao, co, k3, hown, _⟩ := hm2.out_
     have HO := zh (ai hown (ai hk2 (ai hm2 HSH.out)))
     clear hk2 hm2 hown
     obtain ⟨m, hm⟩ := ex (([] ++ sh (.node ⟨1, ((ss.length + 1 : Nat) : Int), 0, s⟩ (ss.map nameT ++ [bt])) 13).length)
     rw [<- hm] at k3 HO
     have HM := zh hm
     clear hm
     go_wp2_with fail
     go_ret2
     refine ⟨Ao, m, co, _, 0, rfl, HM.out, own_mono HO.out.1 (by have := HB1.out.size; omega), ?_, .inr ⟨T, HT.out.1, HT.out.2, .inl ⟨.inl HOP.out.symm, rfl, by rw [List.nil_append]; exact HO.out.2.2.2⟩⟩⟩
     exact (HB1.out.trans (HWB.out)).trans (((HO.out.2.1).below (by omega)).mono HB1.out.size)
   . have hne : ((op : Int) == 1) = false := by rw [bfn]; omega
     have HE := zh (fun W => expression_any op W hop9)
     cases hx2 : exprB op with
     | true =>
      rw [hx2] at HE
      have HKI : Hid (Kind T) := zh (.inr (by rw [<- HOP.out]; exact hx2))
      have HR0 : Hid (Rt 0 T) := zh ((rt_of T _ HT.out.1.1).1 (by rw [<- HOP.out]; exact hx2))
      have HSH : Hid (sh T 1 = shown T) := zh (by
       obtain ⟨y, ks⟩ := T
       unfold shown
       dsimp only
       rw [if_neg (by intro h; have h2 : op = y.op := HOP.out; omega)])
      have hsz : T.flat.length <= 100000 := by rw [HT.out.1.2]; exact hlen
      clear hx2
      go_in
      go_wp2_with fail
      refine HC.out.mono ?_
      rintro e w1 ⟨rfl, hb1⟩
      have HB1 := zh hb1
      have k1 := (HL1.out w1 hb1).1
      have hb1' := (HL1.out w1 hb1).2
      have HW : Hid (WrM (w1.alloc (.cells #[.slice (some ⟨b, off, none⟩) n c, .slice none 0 0] 53)) w1.heap.size l []) := zh (by
       rw [HN.out]
       exact wrm_new (HH.out.2.1.below hb1) HH.out.2.2.1 (fun a ha => by obtain rfl := Option.some.inj ha; exact hb1'))
      have HWB : Hid (Below w.heap.size w1 (w1.alloc (.cells #[.slice (some ⟨b, off, none⟩) n c, .slice none 0 0] 53))) := zh (((Below.refl _ _).alloc (nlr _) _).mono hb1.size)
      clear hb1
      go_wp2_with fail
      generalize w1.alloc _ = wa at *
      have hgs : w1.heap.size < wa.heap.size := HW.out.lt
      refine (HE.out wa).mono ?_
      rintro e w1' ⟨rfl, hw⟩
      rw [hw]
      clear hw w1'
      go_wp2_with fail
      refine ((write_ok 100000 (nlr _)).1 T HR0.out hsz w1.heap.size 1 [] [] wa (by omega) (by rw [HT.out.1.2, List.append_nil]; exact HW.out) (by rw [HSH.out]; have := HLE.out HKI.out; simp only [lnn]; omega)).mono ?_
      rintro e w2 ⟨rfl, hk2, hm2⟩
      obtain ⟨Ao, co, k3, hown, _⟩ := hm2.out_
      have HO := zh (ai hown (ai hk2 (ai hm2 HSH.out)))
      clear hk2 hm2 hown
      obtain ⟨m, hm⟩ := ex (([] ++ sh T 1).length)
      rw [<- hm] at k3 HO
      have HM := zh hm
      clear hm
      go_wp2_with fail
      go_ret2
      refine ⟨Ao, m, co, _, 0, rfl, HM.out, own_mono HO.out.1 (by have := HB1.out.size; omega), ?_, .inr ⟨T, HT.out.1, HT.out.2, .inl ⟨HKI.out, rfl, by rw [List.nil_append]; exact HO.out.2.2.2⟩⟩⟩
      exact (HB1.out.trans (HWB.out)).trans (((HO.out.2.1).below (by omega)).mono HB1.out.size)
     | false =>
      rw [hx2] at HE
      have HKI : Hid (¬ Kind T) := zh (by
       rintro (h | h)
       . have := HOP.out; omega
       . rw [<- HOP.out, hx2] at h; cases h)
      clear hx2
      go_in
      go_wp2_with fail
      refine HC.out.mono ?_
      rintro e w1 ⟨rfl, hb1⟩
      have HB1 := zh hb1
      have k1 := (HL1.out w1 hb1).1
      have hb1' := (HL1.out w1 hb1).2
      have HWB : Hid (Below w.heap.size w1 (w1.alloc (.cells #[.slice (some ⟨b, off, none⟩) n c, .slice none 0 0] 53))) := zh (((Below.refl _ _).alloc (nlr _) _).mono hb1.size)
      clear hb1
      go_wp2_with fail
      generalize w1.alloc _ = wa at *
      refine (HE.out wa).mono ?_
      rintro e w1' ⟨rfl, hw⟩
      rw [hw]
      clear hw w1'
      go_wp2_with fail
      go_ret2
      exact ⟨none, 0, 0, [], 3, rfl, rfl, World.ownsRow_nil _ _ _ _, HB1.out.trans HWB.out, .inr ⟨T, HT.out.1, HT.out.2, .inr ⟨HKI.out, rfl, rfl⟩⟩⟩
 . have hne : (er != 0) = true := by simpa using h0
   have HZ : Hid ((chk l).2 ≠ 0 ∧ er = (chk l).2) := zh (by rw [<- HR.out]; exact ⟨h0, rfl⟩)
   clear h0
   go_in
   go_wp2_with fail
   refine HC.out.mono ?_
   rintro e w1 ⟨rfl, hb1⟩
   have HB1 := zh hb1
   clear hb1
   go_wp2_with fail
   go_ret2
   exact ⟨none, 0, 0, [], er, rfl, rfl, World.ownsRow_nil _ _ _ _, HB1.out, .inl ⟨HZ.out.1, HZ.out.2, rfl⟩⟩
theorem own_new {w : World} {base : Nat} (o : List Tz) (n : Nat) (cs : Array Value) (hcs : cs.toList = rowOf zcell o) (hn : n = o.length) (hb : base <= w.heap.size) (hm : n <= maxLen) :
 (w.alloc (.cells cs 35)).ownsRow base 35 4 (.slice (some ⟨w.heap.size, 0, none⟩) n n) n (rowOf zcell o) := by
 have hl : (rowOf zcell o).length = n * 4 := by rw [rowOf_length zcell_len, hn]
 refine ⟨hl, .inr ⟨w.heap.size, n, cs, rfl, hb, heap_alloc_new w _, nlr _, hm, ?_, ?_⟩⟩
 . rw [<- Array.length_toList, hcs, hl]
 . rw [hcs, <- hl, List.take_length]
def RP (w : World) (o : List Tz) (e : Ending) (w' : World) : Prop :=
 ∃ A c, e = .returned (.slice A o.length c) ∧ w'.ownsRow w.heap.size 35 4 (.slice A o.length c) o.length (rowOf zcell o) ∧ Below w.heap.size w w'
abbrev zV (x : Tz) : Value := .agg #[.int .u8 (x.kind : Nat), .string x.text, .int .i64 x.int, .int .i64 (x.at_ : Nat)]
def MP (w : World) (x : Tz) (e : Ending) (w' : World) : Prop := e = .returned (zV x) ∧ Below w.heap.size w w'
theorem rword_any (s : ByteArray) (w : World) : Calls prog 64 #[.string s] w (MP w (wt s)) := by
 go_in
 go_wp2_with fail
 exact bodyPost_ret (results_cell_row rfl _ _ w.heap.size 35 #[.int .u8 1, .string s, .int .i64 0, .int .i64 0] (0, 0) _ rfl (heap_alloc_new w _) underlying35 rfl (by kernel_rfl)) rfl ⟨rfl, (Below.refl _ _).alloc (nlr _) _⟩
theorem rsign_any (s : ByteArray) (w : World) : Calls prog 65 #[.string s] w (MP w (sgB s)) := by
 go_in
 go_wp2_with fail
 exact bodyPost_ret (results_cell_row rfl _ _ w.heap.size 35 #[.int .u8 4, .string s, .int .i64 0, .int .i64 0] (0, 0) _ rfl (heap_alloc_new w _) underlying35 rfl (by kernel_rfl)) rfl ⟨rfl, (Below.refl _ _).alloc (nlr _) _⟩
def CN (f : Nat) (op : Int) (v : Value) : Prop := ∀ w, Calls prog f #[.int .u8 op] w fun e w' => e = .returned v ∧ w' = w
def CM (op k : Int) (s : ByteArray) : Prop := ∀ w, Calls prog 122 #[.int .u8 op] w fun e w' => e = .returned (.agg #[.int .u8 k, .string s, .int .i64 0, .int .i64 0]) ∧ Below w.heap.size w w'
theorem called45 : CN 135 45 (.string ⟨#[108, 101, 110]⟩) := by intro w; go_in; go_wp2_with fail; go_ret; exact ⟨rfl, rfl⟩
theorem called46 : CN 135 46 (.string ⟨#[114, 101]⟩) := by intro w; go_in; go_wp2_with fail; go_ret; exact ⟨rfl, rfl⟩
theorem called47 : CN 135 47 (.string ⟨#[105, 109]⟩) := by intro w; go_in; go_wp2_with fail; go_ret; exact ⟨rfl, rfl⟩
theorem called48 : CN 135 48 (.string ⟨#[99, 111, 110, 106]⟩) := by intro w; go_in; go_wp2_with fail; go_ret; exact ⟨rfl, rfl⟩
theorem called41 : CN 135 41 (.string ⟨#[110, 117, 109]⟩) := by intro w; go_in; go_wp2_with fail; go_ret; exact ⟨rfl, rfl⟩
theorem called52 : CN 135 52 (.string ⟨#[116, 105, 109, 101, 114]⟩) := by intro w; go_in; go_wp2_with fail; go_ret; exact ⟨rfl, rfl⟩
theorem called50 : CN 135 50 (.string ⟨#[99, 97, 108, 108]⟩) := by intro w; go_in; go_wp2_with fail; go_ret; exact ⟨rfl, rfl⟩
theorem called51 : CN 135 51 (.string ⟨#[99, 104, 105, 108, 100]⟩) := by intro w; go_in; go_wp2_with fail; go_ret; exact ⟨rfl, rfl⟩
theorem called8 : CN 135 8 (.string ⟨#[114, 101, 116, 117, 114, 110]⟩) := by intro w; go_in; go_wp2_with fail; go_ret; exact ⟨rfl, rfl⟩
theorem called9 : CN 135 9 (.string ⟨#[102, 97, 105, 108]⟩) := by intro w; go_in; go_wp2_with fail; go_ret; exact ⟨rfl, rfl⟩
theorem called10 : CN 135 10 (.string ⟨#[115, 108, 101, 101, 112]⟩) := by intro w; go_in; go_wp2_with fail; go_ret; exact ⟨rfl, rfl⟩
theorem called11 : CN 135 11 (.string ⟨#[100, 111]⟩) := by intro w; go_in; go_wp2_with fail; go_ret; exact ⟨rfl, rfl⟩
theorem name30 : CN 131 30 (.string ⟨#[111, 114]⟩) := by intro w; go_in; go_wp2_with fail; go_ret; exact ⟨rfl, rfl⟩
theorem name31 : CN 131 31 (.string ⟨#[97, 110, 100]⟩) := by intro w; go_in; go_wp2_with fail; go_ret; exact ⟨rfl, rfl⟩
theorem name32 : CN 131 32 (.string ⟨#[61, 61]⟩) := by intro w; go_in; go_wp2_with fail; go_ret; exact ⟨rfl, rfl⟩
theorem name33 : CN 131 33 (.string ⟨#[33, 61]⟩) := by intro w; go_in; go_wp2_with fail; go_ret; exact ⟨rfl, rfl⟩
theorem name34 : CN 131 34 (.string ⟨#[60]⟩) := by intro w; go_in; go_wp2_with fail; go_ret; exact ⟨rfl, rfl⟩
theorem name35 : CN 131 35 (.string ⟨#[60, 61]⟩) := by intro w; go_in; go_wp2_with fail; go_ret; exact ⟨rfl, rfl⟩
theorem name36 : CN 131 36 (.string ⟨#[43]⟩) := by intro w; go_in; go_wp2_with fail; go_ret; exact ⟨rfl, rfl⟩
theorem name37 : CN 131 37 (.string ⟨#[45]⟩) := by intro w; go_in; go_wp2_with fail; go_ret; exact ⟨rfl, rfl⟩
theorem name44 : CN 131 44 (.string ⟨#[45]⟩) := by intro w; go_in; go_wp2_with fail; go_ret; exact ⟨rfl, rfl⟩
theorem name38 : CN 131 38 (.string ⟨#[42]⟩) := by intro w; go_in; go_wp2_with fail; go_ret; exact ⟨rfl, rfl⟩
theorem name39 : CN 131 39 (.string ⟨#[47]⟩) := by intro w; go_in; go_wp2_with fail; go_ret; exact ⟨rfl, rfl⟩
theorem name40 : CN 131 40 (.string ⟨#[37]⟩) := by intro w; go_in; go_wp2_with fail; go_ret; exact ⟨rfl, rfl⟩
theorem name43 : CN 131 43 (.string ⟨#[110, 111, 116]⟩) := by intro w; go_in; go_wp2_with fail; go_ret; exact ⟨rfl, rfl⟩
theorem name54 : CN 131 54 (.string ⟨#[97, 119, 97, 105, 116]⟩) := by intro w; go_in; go_wp2_with fail; go_ret; exact ⟨rfl, rfl⟩
theorem name55 : CN 131 55 (.string ⟨#[115, 101, 116, 116, 108, 101]⟩) := by intro w; go_in; go_wp2_with fail; go_ret; exact ⟨rfl, rfl⟩
theorem name20 : CN 131 20 (.string ⟨#[110, 111, 110, 101]⟩) := by intro w; go_in; go_wp2_with fail; go_ret; exact ⟨rfl, rfl⟩
theorem name21 : CN 131 21 (.string ⟨#[116, 114, 117, 101]⟩) := by intro w; go_in; go_wp2_with fail; go_ret; exact ⟨rfl, rfl⟩
theorem name22 : CN 131 22 (.string ⟨#[102, 97, 108, 115, 101]⟩) := by intro w; go_in; go_wp2_with fail; go_ret; exact ⟨rfl, rfl⟩
theorem name57 : CN 131 57 (.string ⟨#[118, 101, 114, 115, 105, 111, 110]⟩) := by intro w; go_in; go_wp2_with fail; go_ret; exact ⟨rfl, rfl⟩
theorem name45 : CN 131 45 (.string ⟨#[108, 101, 110]⟩) := by intro w; go_in; go_wp2_with fail; refine (called45 _).mono ?_; rintro e w1 ⟨rfl, rfl⟩; go_wp2_with fail; go_ret; exact ⟨rfl, rfl⟩
theorem name46 : CN 131 46 (.string ⟨#[114, 101]⟩) := by intro w; go_in; go_wp2_with fail; refine (called46 _).mono ?_; rintro e w1 ⟨rfl, rfl⟩; go_wp2_with fail; go_ret; exact ⟨rfl, rfl⟩
theorem name47 : CN 131 47 (.string ⟨#[105, 109]⟩) := by intro w; go_in; go_wp2_with fail; refine (called47 _).mono ?_; rintro e w1 ⟨rfl, rfl⟩; go_wp2_with fail; go_ret; exact ⟨rfl, rfl⟩
theorem name48 : CN 131 48 (.string ⟨#[99, 111, 110, 106]⟩) := by intro w; go_in; go_wp2_with fail; refine (called48 _).mono ?_; rintro e w1 ⟨rfl, rfl⟩; go_wp2_with fail; go_ret; exact ⟨rfl, rfl⟩
theorem name41 : CN 131 41 (.string ⟨#[110, 117, 109]⟩) := by intro w; go_in; go_wp2_with fail; refine (called41 _).mono ?_; rintro e w1 ⟨rfl, rfl⟩; go_wp2_with fail; go_ret; exact ⟨rfl, rfl⟩
theorem name52 : CN 131 52 (.string ⟨#[116, 105, 109, 101, 114]⟩) := by intro w; go_in; go_wp2_with fail; refine (called52 _).mono ?_; rintro e w1 ⟨rfl, rfl⟩; go_wp2_with fail; go_ret; exact ⟨rfl, rfl⟩
theorem name50 : CN 131 50 (.string ⟨#[99, 97, 108, 108]⟩) := by intro w; go_in; go_wp2_with fail; refine (called50 _).mono ?_; rintro e w1 ⟨rfl, rfl⟩; go_wp2_with fail; go_ret; exact ⟨rfl, rfl⟩
theorem name51 : CN 131 51 (.string ⟨#[99, 104, 105, 108, 100]⟩) := by intro w; go_in; go_wp2_with fail; refine (called51 _).mono ?_; rintro e w1 ⟨rfl, rfl⟩; go_wp2_with fail; go_ret; exact ⟨rfl, rfl⟩
theorem name8 : CN 131 8 (.string ⟨#[114, 101, 116, 117, 114, 110]⟩) := by intro w; go_in; go_wp2_with fail; refine (called8 _).mono ?_; rintro e w1 ⟨rfl, rfl⟩; go_wp2_with fail; go_ret; exact ⟨rfl, rfl⟩
theorem name9 : CN 131 9 (.string ⟨#[102, 97, 105, 108]⟩) := by intro w; go_in; go_wp2_with fail; refine (called9 _).mono ?_; rintro e w1 ⟨rfl, rfl⟩; go_wp2_with fail; go_ret; exact ⟨rfl, rfl⟩
theorem name10 : CN 131 10 (.string ⟨#[115, 108, 101, 101, 112]⟩) := by intro w; go_in; go_wp2_with fail; refine (called10 _).mono ?_; rintro e w1 ⟨rfl, rfl⟩; go_wp2_with fail; go_ret; exact ⟨rfl, rfl⟩
theorem name11 : CN 131 11 (.string ⟨#[100, 111]⟩) := by intro w; go_in; go_wp2_with fail; refine (called11 _).mono ?_; rintro e w1 ⟨rfl, rfl⟩; go_wp2_with fail; go_ret; exact ⟨rfl, rfl⟩
theorem mark_wd {op : Int} {s : ByteArray} (hn : CN 131 op (.string s)) (h0 : 0 < s.size) (h1 : 97 <= s[0].toNat) (h2 : s[0].toNat <= 122) : CM op 1 s := by
 intro w
 have HN := zh hn
 have HM := zh (fun W => rword_any s W)
 have d0 : (0 : Int) < (s.size : Int) := by omega
 have d1 : decide ((97 : Int) <= (s[0].toNat : Int)) = true := dqt (by omega)
 have d2 : decide ((s[0].toNat : Int) <= 122) = true := dqt (by omega)
 clear hn
 go_in
 go_wp2_with fail
 refine (HN.out _).mono ?_
 rintro e w1 ⟨rfl, hw⟩
 rw [hw]
 clear hw w1
 go_wp2_with fail
 refine (HM.out _).mono ?_
 rintro e w2 ⟨rfl, hb⟩
 have HB : Hid (Below w.heap.size w w2) := zh (((Below.refl _ _).alloc (nlr _) _).trans (hb.mono (by simp)))
 have HY : Hid (Blk w2 w.heap.size 35 #[.int .u8 0, .string ⟨#[]⟩, .int .i64 0, .int .i64 0]) := zh ((hb.block _ (by simp)).trans (Blk.new w 35 _))
 clear hb
 go_wp2_with (refine wpList_store_row rfl 35 _ _ rfl w.heap.size #[.int .u8 1, .string s, .int .i64 0, .int .i64 0] rfl rfl 35 _ HY.out (by kernel_rfl) (by kernel_rfl) (by kernel_rfl) ?_)
 exact bodyPost_ret (results_cell_row rfl _ _ w.heap.size 35 #[.int .u8 1, .string s, .int .i64 0, .int .i64 0] (0, 0) _ rfl (setRow_heap _ w.heap.size _ _ 35 _ HY.out) underlying35 rfl (by kernel_rfl)) rfl ⟨rfl, below_setRow HB.out (nlr _) _⟩
theorem mark_sg {op : Int} {s : ByteArray} (hn : CN 131 op (.string s)) (h0 : 0 < s.size) (h1 : s[0].toNat < 97) : CM op 4 s := by
 intro w
 have HN := zh hn
 have HM := zh (fun W => rsign_any s W)
 have d0 : (0 : Int) < (s.size : Int) := by omega
 have d1 : decide ((97 : Int) <= (s[0].toNat : Int)) = false := dqf (by omega)
 clear hn
 go_in
 go_wp2_with fail
 refine (HN.out _).mono ?_
 rintro e w1 ⟨rfl, hw⟩
 rw [hw]
 clear hw w1
 go_wp2_with fail
 refine (HM.out _).mono ?_
 rintro e w2 ⟨rfl, hb⟩
 have HB : Hid (Below w.heap.size w w2) := zh (((Below.refl _ _).alloc (nlr _) _).trans (hb.mono (by simp)))
 have HY : Hid (Blk w2 w.heap.size 35 #[.int .u8 0, .string ⟨#[]⟩, .int .i64 0, .int .i64 0]) := zh ((hb.block _ (by simp)).trans (Blk.new w 35 _))
 clear hb
 go_wp2_with (refine wpList_store_row rfl 35 _ _ rfl w.heap.size #[.int .u8 4, .string s, .int .i64 0, .int .i64 0] rfl rfl 35 _ HY.out (by kernel_rfl) (by kernel_rfl) (by kernel_rfl) ?_)
 exact bodyPost_ret (results_cell_row rfl _ _ w.heap.size 35 #[.int .u8 4, .string s, .int .i64 0, .int .i64 0] (0, 0) _ rfl (setRow_heap _ w.heap.size _ _ 35 _ HY.out) underlying35 rfl (by kernel_rfl)) rfl ⟨rfl, below_setRow HB.out (nlr _) _⟩
theorem mark30 : CM 30 1 ⟨#[111, 114]⟩ := mark_wd name30 (by decide) (by decide) (by decide)
theorem mark31 : CM 31 1 ⟨#[97, 110, 100]⟩ := mark_wd name31 (by decide) (by decide) (by decide)
theorem mark32 : CM 32 4 ⟨#[61, 61]⟩ := mark_sg name32 (by decide) (by decide)
theorem mark33 : CM 33 4 ⟨#[33, 61]⟩ := mark_sg name33 (by decide) (by decide)
theorem mark34 : CM 34 4 ⟨#[60]⟩ := mark_sg name34 (by decide) (by decide)
theorem mark35 : CM 35 4 ⟨#[60, 61]⟩ := mark_sg name35 (by decide) (by decide)
theorem mark36 : CM 36 4 ⟨#[43]⟩ := mark_sg name36 (by decide) (by decide)
theorem mark37 : CM 37 4 ⟨#[45]⟩ := mark_sg name37 (by decide) (by decide)
theorem mark44 : CM 44 4 ⟨#[45]⟩ := mark_sg name44 (by decide) (by decide)
theorem mark38 : CM 38 4 ⟨#[42]⟩ := mark_sg name38 (by decide) (by decide)
theorem mark39 : CM 39 4 ⟨#[47]⟩ := mark_sg name39 (by decide) (by decide)
theorem mark40 : CM 40 4 ⟨#[37]⟩ := mark_sg name40 (by decide) (by decide)
theorem mark43 : CM 43 1 ⟨#[110, 111, 116]⟩ := mark_wd name43 (by decide) (by decide) (by decide)
theorem mark54 : CM 54 1 ⟨#[97, 119, 97, 105, 116]⟩ := mark_wd name54 (by decide) (by decide) (by decide)
theorem mark55 : CM 55 1 ⟨#[115, 101, 116, 116, 108, 101]⟩ := mark_wd name55 (by decide) (by decide) (by decide)
theorem mark20 : CM 20 1 ⟨#[110, 111, 110, 101]⟩ := mark_wd name20 (by decide) (by decide) (by decide)
theorem mark21 : CM 21 1 ⟨#[116, 114, 117, 101]⟩ := mark_wd name21 (by decide) (by decide) (by decide)
theorem mark22 : CM 22 1 ⟨#[102, 97, 108, 115, 101]⟩ := mark_wd name22 (by decide) (by decide) (by decide)
theorem mark57 : CM 57 1 ⟨#[118, 101, 114, 115, 105, 111, 110]⟩ := mark_wd name57 (by decide) (by decide) (by decide)
theorem mark45 : CM 45 1 ⟨#[108, 101, 110]⟩ := mark_wd name45 (by decide) (by decide) (by decide)
theorem mark46 : CM 46 1 ⟨#[114, 101]⟩ := mark_wd name46 (by decide) (by decide) (by decide)
theorem mark47 : CM 47 1 ⟨#[105, 109]⟩ := mark_wd name47 (by decide) (by decide) (by decide)
theorem mark48 : CM 48 1 ⟨#[99, 111, 110, 106]⟩ := mark_wd name48 (by decide) (by decide) (by decide)
theorem mark41 : CM 41 1 ⟨#[110, 117, 109]⟩ := mark_wd name41 (by decide) (by decide) (by decide)
theorem mark52 : CM 52 1 ⟨#[116, 105, 109, 101, 114]⟩ := mark_wd name52 (by decide) (by decide) (by decide)
theorem mark50 : CM 50 1 ⟨#[99, 97, 108, 108]⟩ := mark_wd name50 (by decide) (by decide) (by decide)
theorem mark51 : CM 51 1 ⟨#[99, 104, 105, 108, 100]⟩ := mark_wd name51 (by decide) (by decide) (by decide)
theorem mark8 : CM 8 1 ⟨#[114, 101, 116, 117, 114, 110]⟩ := mark_wd name8 (by decide) (by decide) (by decide)
theorem mark9 : CM 9 1 ⟨#[102, 97, 105, 108]⟩ := mark_wd name9 (by decide) (by decide) (by decide)
theorem mark10 : CM 10 1 ⟨#[115, 108, 101, 101, 112]⟩ := mark_wd name10 (by decide) (by decide) (by decide)
theorem mark11 : CM 11 1 ⟨#[100, 111]⟩ := mark_wd name11 (by decide) (by decide) (by decide)
theorem rwidth20 : CN 101 20 (.int .i64 9) := by intro w; go_in; go_wp2_with fail; go_ret; exact ⟨rfl, rfl⟩
theorem rwidth21 : CN 101 21 (.int .i64 9) := by intro w; go_in; go_wp2_with fail; go_ret; exact ⟨rfl, rfl⟩
theorem rwidth22 : CN 101 22 (.int .i64 9) := by intro w; go_in; go_wp2_with fail; go_ret; exact ⟨rfl, rfl⟩
theorem rwidth57 : CN 101 57 (.int .i64 9) := by intro w; go_in; go_wp2_with fail; go_ret; exact ⟨rfl, rfl⟩
theorem rwidth23 : CN 101 23 (.int .i64 9) := by intro w; go_in; go_wp2_with fail; go_ret; exact ⟨rfl, rfl⟩
theorem rwidth24 : CN 101 24 (.int .i64 9) := by intro w; go_in; go_wp2_with fail; go_ret; exact ⟨rfl, rfl⟩
theorem rwidth26 : CN 101 26 (.int .i64 9) := by intro w; go_in; go_wp2_with fail; go_ret; exact ⟨rfl, rfl⟩
theorem rwidth56 : CN 101 56 (.int .i64 9) := by intro w; go_in; go_wp2_with fail; go_ret; exact ⟨rfl, rfl⟩
theorem rwidth25 : CN 101 25 (.int .i64 9) := by intro w; go_in; go_wp2_with fail; go_ret; exact ⟨rfl, rfl⟩
theorem rwidth50 : CN 101 50 (.int .i64 9) := by intro w; go_in; go_wp2_with fail; go_ret; exact ⟨rfl, rfl⟩
theorem rwidth51 : CN 101 51 (.int .i64 9) := by intro w; go_in; go_wp2_with fail; go_ret; exact ⟨rfl, rfl⟩
theorem rwidth45 : CN 101 45 (.int .i64 9) := by intro w; go_in; go_wp2_with fail; go_ret; exact ⟨rfl, rfl⟩
theorem rwidth46 : CN 101 46 (.int .i64 9) := by intro w; go_in; go_wp2_with fail; go_ret; exact ⟨rfl, rfl⟩
theorem rwidth47 : CN 101 47 (.int .i64 9) := by intro w; go_in; go_wp2_with fail; go_ret; exact ⟨rfl, rfl⟩
theorem rwidth48 : CN 101 48 (.int .i64 9) := by intro w; go_in; go_wp2_with fail; go_ret; exact ⟨rfl, rfl⟩
theorem rwidth52 : CN 101 52 (.int .i64 9) := by intro w; go_in; go_wp2_with fail; go_ret; exact ⟨rfl, rfl⟩
theorem rwidth41 : CN 101 41 (.int .i64 9) := by intro w; go_in; go_wp2_with fail; go_ret; exact ⟨rfl, rfl⟩
theorem rwidth53 : CN 101 53 (.int .i64 9) := by intro w; go_in; go_wp2_with fail; go_ret; exact ⟨rfl, rfl⟩
theorem rwidth43 : CN 101 43 (.int .i64 3) := by intro w; go_in; go_wp2_with fail; go_ret; exact ⟨rfl, rfl⟩
theorem rwidth44 : CN 101 44 (.int .i64 7) := by intro w; go_in; go_wp2_with fail; go_ret; exact ⟨rfl, rfl⟩
theorem rwidth54 : CN 101 54 (.int .i64 7) := by intro w; go_in; go_wp2_with fail; go_ret; exact ⟨rfl, rfl⟩
theorem rwidth55 : CN 101 55 (.int .i64 7) := by intro w; go_in; go_wp2_with fail; go_ret; exact ⟨rfl, rfl⟩
theorem rwidth42 : CN 101 42 (.int .i64 8) := by intro w; go_in; go_wp2_with fail; go_ret; exact ⟨rfl, rfl⟩
theorem rwidth32 : CN 101 32 (.int .i64 4) := by intro w; go_in; go_wp2_with fail; go_ret; exact ⟨rfl, rfl⟩
theorem rwidth33 : CN 101 33 (.int .i64 4) := by intro w; go_in; go_wp2_with fail; go_ret; exact ⟨rfl, rfl⟩
theorem rwidth34 : CN 101 34 (.int .i64 4) := by intro w; go_in; go_wp2_with fail; go_ret; exact ⟨rfl, rfl⟩
theorem rwidth35 : CN 101 35 (.int .i64 4) := by intro w; go_in; go_wp2_with fail; go_ret; exact ⟨rfl, rfl⟩
theorem rwidth30 : CN 101 30 (.int .i64 1) := by intro w; go_in; go_wp2_with fail; go_ret; exact ⟨rfl, rfl⟩
theorem rwidth31 : CN 101 31 (.int .i64 2) := by intro w; go_in; go_wp2_with fail; go_ret; exact ⟨rfl, rfl⟩
theorem rwidth36 : CN 101 36 (.int .i64 5) := by intro w; go_in; go_wp2_with fail; go_ret; exact ⟨rfl, rfl⟩
theorem rwidth37 : CN 101 37 (.int .i64 5) := by intro w; go_in; go_wp2_with fail; go_ret; exact ⟨rfl, rfl⟩
theorem rwidth38 : CN 101 38 (.int .i64 6) := by intro w; go_in; go_wp2_with fail; go_ret; exact ⟨rfl, rfl⟩
theorem rwidth39 : CN 101 39 (.int .i64 6) := by intro w; go_in; go_wp2_with fail; go_ret; exact ⟨rfl, rfl⟩
theorem rwidth40 : CN 101 40 (.int .i64 6) := by intro w; go_in; go_wp2_with fail; go_ret; exact ⟨rfl, rfl⟩
def ncell (v : Nat) : List Value := [.int .i64 (v : Nat)]
theorem ncells_row (l : List Nat) : ncells l = rowOf ncell l := by
 unfold ncells rowOf ncell
 induction l with
 | nil => rfl
 | cons a l ih => rw [List.map_cons, List.flatMap_cons, ih]; rfl
abbrev RdN := RdL ncell 1
theorem rdn_own {w : World} {base n c : Nat} {K : Option Addr} {l : List Nat} (h : w.ownsRow base 3 1 (.slice K n c) n (ncells l)) (hn : n = l.length) : RdN w K l := by
 rw [ncells_row] at h
 exact RdL.of_own (fun _ => rfl) h hn
theorem rdz_ow {w : World} {base n c : Nat} {A : Option Addr} {o : List Tz} (h : w.ownsRow base 35 4 (.slice A n c) n (rowOf zcell o)) (hn : n = o.length) : RdZ w A o := RdL.of_own zcell_len h hn
theorem app_below {w w1 w2 : World} {B n c : Nat} {A : Option Addr} {xs : List Value} (hb : Below B w w1) (ho : w1.ownsRow B 35 4 (.slice A n c) n xs) (hg : w1.grownBy w2 (Value.slice A n c).ownBlock) (hB : B <= w1.heap.size) : Below B w w2 :=
 hb.grown hg hB (fun k hk => (World.ownsRow.lt ho k hk).1)
def AtR (N : Nat) : Prop := ∀ (T : Tr), Rt 0 T -> T.flat.length <= N -> ∀ (l : List Tw) (A : Option Addr) (c i : Nat) (r : List Tw) (a : Nat) (w : World), l.length <= 100000 -> a <= 9 -> l.drop i = T.flat ++ r -> RdL twcell 4 w A l -> Calls prog 63 #[.slice A l.length c, .int .i64 (i : Nat), .int .i64 (a : Nat)] w (RP w (sh T a))
def BareR (N : Nat) : Prop := ∀ (x : Tw) (ks : List Tr), Rt 0 (.node x ks) -> (Tr.node x ks).flat.length <= N -> ∀ (l : List Tw) (A : Option Addr) (c i : Nat) (r : List Tw) (w : World), l.length <= 100000 -> l.drop i = (Tr.node x ks).flat ++ r -> RdL twcell 4 w A l -> Calls prog 100 #[.slice A l.length c, .int .i64 (i : Nat)] w (RP w (bareS x (shs ks)))
def BlockR (N : Nat) : Prop := ∀ (T : Tr), Rt 1 T -> T.flat.length <= N -> ∀ (l : List Tw) (A : Option Addr) (c i : Nat) (r : List Tw) (w : World), l.length <= 100000 -> l.drop i = T.flat ++ r -> RdL twcell 4 w A l -> Calls prog 67 #[.slice A l.length c, .int .i64 (i : Nat)] w (RP w (sh T 10))
def StmtR (N : Nat) : Prop := ∀ (T : Tr), Rt 2 T -> T.flat.length <= N -> ∀ (l : List Tw) (A : Option Addr) (c i : Nat) (r : List Tw) (w : World), l.length <= 100000 -> l.drop i = T.flat ++ r -> RdL twcell 4 w A l -> Calls prog 103 #[.slice A l.length c, .int .i64 (i : Nat)] w (RP w (sh T 11))
abbrev sgV (s : ByteArray) : Value := .agg #[.int .u8 4, .string s, .int .i64 0, .int .i64 0]
abbrev wdV (s : ByteArray) : Value := .agg #[.int .u8 1, .string s, .int .i64 0, .int .i64 0]
theorem rsign_v (s : ByteArray) (w : World) : Calls prog 65 #[.string s] w fun e w' => e = .returned (sgV s) ∧ Below w.heap.size w w' := rsign_any s w
theorem rword_v (s : ByteArray) (w : World) : Calls prog 64 #[.string s] w fun e w' => e = .returned (wdV s) ∧ Below w.heap.size w w' := rword_any s w
theorem posL_get : ∀ (ks : List Tr) (p j : Nat) (k : Tr), ks[j]? = some k -> (posL p ks)[j]? = some (p + (flats (ks.take j)).length)
 | [], p, j, k, h => by simp at h
 | t :: ks, p, 0, k, h => by rw [posL]; rfl
 | t :: ks, p, j + 1, k, h => by
  rw [posL, List.getElem?_cons_succ, posL_get ks (p + t.flat.length) j k (by simpa using h), List.take_succ_cons, flats, lna, Nat.add_assoc]
theorem drop_kid {l r : List Tw} {ks : List Tr} {p j : Nat} {k : Tr} (hd : l.drop p = flats ks ++ r) (hk : ks[j]? = some k) : l.drop (p + (flats (ks.take j)).length) = k.flat ++ (flats (ks.drop (j + 1)) ++ r) := by
 have h : flats ks = flats (ks.take j) ++ (k.flat ++ flats (ks.drop (j + 1))) := by
  conv => lhs; rw [<- List.take_append_drop j ks, flats_append, drop_flats ks hk]
 rw [h, List.append_assoc, List.append_assoc] at hd
 exact drop_app hd
theorem kid_read {w : World} {K : Option Addr} {p : Nat} {ks : List Tr} {j : Nat} {k : Tr} (hK : RdN w K (posL p ks)) (hk : ks[j]? = some k) :
 ∃ b off, K = some ⟨b, off, none⟩ ∧ b < w.heap.size ∧ w.cell? ⟨b, off + j, none⟩ = some (.int .i64 ((p + (flats (ks.take j)).length : Nat) : Int)) := by
 have hg := posL_get ks p j k hk
 rcases hK with h | ⟨b, off, h1, h2, h3⟩
 . rw [h] at hg; simp at hg
 . refine ⟨b, off, h1, h2, ?_⟩
   have := h3 j _ hg 0 _ rfl
   rwa [Nat.mul_one, Nat.add_zero] at this
theorem commas_few {N : Nat} {ks : List Tr} (h : ∀ k ∈ ks, Rt 0 k ∧ k.flat.length <= N) : (commas 1 (shs ks)).length <= 8 * (flats ks).length := few_commas fun k hk => (few_any (h k hk).1).1 rfl 1 (by omega)
theorem rlist_any (N : Nat) (hE : AtR N) (ks : List Tr) (hks : ∀ k ∈ ks, Rt 0 k ∧ k.flat.length <= N) (sb cb : ByteArray) (l : List Tw) (A K : Option Addr) (c cK p n : Nat) (r : List Tw) (w : World) (hl : l.length <= 100000) (hd : l.drop p = flats ks ++ r) (hrd : RdL twcell 4 w A l) (hK : RdN w K (posL p ks)) (hn : n = ks.length) :
 Calls prog 121 #[.slice A l.length c, .slice K n cK, .string sb, .string cb] w (RP w (sgB sb :: (commas 1 (shs ks) ++ [sgB cb]))) := by
 have hfl : (flats ks).length <= 100000 := by
  have h := drop_len hd
  rw [lna] at h
  omega
 have hlen : (commas 1 (shs ks)).length <= 800000 := by have := commas_few hks; omega
 have hn9 : n <= 100000 := by have := len_flats ks; omega
 have HH := zh (ai hE (ai hks (ai hd (ai hrd (ai hK (ai hn (ai hl hlen)))))))
 obtain ⟨q, hq⟩ := ex l.length
 have HQ := zh hq
 rw [<- hq]
 have HS := zh (fun s W => rsign_v s W)
 clear hE hks hl hd hrd hK hn hfl hlen hq
 go_in
 go_wp2_with fail
 refine (HS.out sb w).mono ?_
 rintro e w1 ⟨rfl, hb1⟩
 have H1 : Hid (Below w.heap.size w (w1.alloc (.cells #[.int .u8 4, .string sb, .int .i64 0, .int .i64 0] 35)) ∧ (w1.alloc (.cells #[.int .u8 4, .string sb, .int .i64 0, .int .i64 0] 35)).ownsRow w.heap.size 35 4 (.slice (some ⟨w1.heap.size, 0, none⟩) 1 1) 1 (rowOf zcell [sgB sb])) :=
  zh ⟨hb1.alloc hb1.size _, own_new [sgB sb] 1 _ rfl rfl hb1.size (by unfold maxLen; omega)⟩
 clear hb1
 go_wp2_with fail
 generalize w1.alloc _ = wa at *
 go_loopw [9, 10] (fun s9 s10 wr => ∃ (j m c1 : Nat) (A1 : Option Addr), s9 = .slice A1 m c1 ∧ s10 = .int .i64 (j : Nat) ∧ j <= n ∧ m = (commas 1 (shs (ks.take j))).length + 1 ∧ wr.ownsRow w.heap.size 35 4 (.slice A1 m c1) m (rowOf zcell (sgB sb :: commas 1 (shs (ks.take j)))) ∧ Below w.heap.size w wr) (fun _ s10 _ => n - (intOf s10).toNat)
 case atStart => exact ⟨0, 1, 1, some ⟨w1.heap.size, 0, none⟩, rfl, rfl, by omega, by rw [List.take_zero, shs]; rfl, by rw [List.take_zero, shs]; exact H1.out.2, H1.out.1⟩
 case round =>
  obtain ⟨j, m, c1, A1, rfl, rfl, hj, hm, ho, hb⟩ := hrel
  have HO := zh (ai ho (ai hb hm))
  have hm9 : m <= 900000 := by
   have := take_len 1 ks j
   have := HH.out.2.2.2.2.2.2.2
   omega
  clear ho hb hm
  by_cases hlt : j < n
  . have hdd : decide ((j : Int) < (n : Int)) = true := dqt (by omega)
    obtain ⟨k, hk⟩ : ∃ k, ks[j]? = some k := by
     have : j < ks.length := by rw [<- HH.out.2.2.2.2.2.1]; exact hlt
     exact ⟨_, List.getElem?_eq_getElem this⟩
    have HK := zh (ai hk (HH.out.2.1 k (List.mem_of_getElem? hk)))
    clear hk
    obtain ⟨b, off, rfl, hbl, hcell⟩ := kid_read HH.out.2.2.2.2.1 HK.out.1
    obtain ⟨z, hz⟩ := ex (p + (flats (ks.take j)).length)
    rw [<- hz] at hcell
    have hz9 : z <= 100000 := by
     have h1 := drop_len HH.out.2.2.1
     have h2 : (flats ks).length = (flats (ks.take j)).length + (flats (ks.drop j)).length := by rw [<- lna, <- flats_append, List.take_append_drop]
     have h3 := flat_pos k
     have h4 : (flats (ks.drop j)).length = k.flat.length + (flats (ks.drop (j + 1))).length := by rw [drop_flats ks HK.out.1, lna]
     have h5 := HH.out.2.2.2.2.2.2.1
     rw [lna] at h1
     omega
    have HC := zh (ai hbl hcell)
    have HX : Hid (∀ W, Below w.heap.size w W -> Calls prog 63 #[.slice A q c, .int .i64 (z : Nat), .int .i64 1] W (RP W (sh k 1))) := zh (fun W hW => by
     rw [HQ.out, hz]
     exact HH.out.1 k HK.out.2.1 HK.out.2.2 l A c _ _ 1 W HH.out.2.2.2.2.2.2.1 (by omega) (drop_kid HH.out.2.2.1 HK.out.1) (HH.out.2.2.2.1.below hW))
    have HKL : Hid ((sh k 1).length <= 800000) := zh (by
     have h1 := (few_any HK.out.2.1).1 rfl 1 (by omega)
     unfold Few at h1
     have h2 := T8.flat_le (List.mem_of_getElem? HK.out.1)
     have h3 := drop_len HH.out.2.2.1
     have h5 := HH.out.2.2.2.2.2.2.1
     rw [lna] at h3
     omega)
    clear hz hcell hbl
    by_cases h0 : j = 0
    . subst h0
      have HCM : Hid (commas 1 (shs (ks.take (0 + 1))) = sh k 1) := zh (by rw [take_shs ks HK.out.1, List.take_zero, shs]; rfl)
      have hcell : wr.cell? ⟨b, off, none⟩ = some (.int .i64 (z : Nat)) := (HO.out.2.1.cell (p := ⟨b, off, none⟩) HC.out.1).trans HC.out.2
      have HO2 := zh (show wr.ownsRow w.heap.size 35 4 (.slice A1 m c1) m (rowOf zcell [sgB sb]) from by have := HO.out.1; rw [List.take_zero, shs] at this; exact this)
      have hd0 : decide ((0 : Int) < (0 : Int)) = false := rfl
      go_wp2_with fail
      refine (HX.out wr HO.out.2.1).mono ?_
      rintro e w3 ⟨A3, c3, rfl, ho3, hb3⟩
      have H3 := zh (ai ho3 hb3)
      obtain ⟨m3, hm3⟩ : ∃ z, z = (sh k 1).length := ⟨_, rfl⟩
      have hm39 : m3 <= 800000 := by have := HKL.out; omega
      rw [<- hm3] at H3 |-
      have HM3 := zh hm3
      clear ho3 hb3 hm3 HX
      go_wp2_with (at_builtin; refine wpList_app_z rfl (.tmp 26) (.tmp 32) rfl w.heap.size m c1 m3 c3 A1 A3 [sgB sb] (sh k 1) rfl (own_below HO2.out H3.out.2) rfl HM3.out (rdz_ow H3.out.1 HM3.out) (by omega) (by have := HO.out.2.1.size; have := H3.out.2.size; omega) ?_; intro A4 c4 w4 ho4 hg4; have H4 := zh (ai ho4 (app_below (HO.out.2.1.trans (H3.out.2.mono HO.out.2.1.size)) (own_below HO2.out H3.out.2) hg4 (by have := HO.out.2.1.size; have := H3.out.2.size; omega))); clear ho4 hg4)
      go_roundw
      case rel =>
       refine ⟨1, m + m3, c4, A4, rfl, by go_num, by omega, by
        have h1 := HO.out.2.2
        rw [List.take_zero, shs] at h1
        have h2 : m = 1 := h1
        show m + m3 = (commas 1 (shs (ks.take (0 + 1)))).length + 1
        rw [HCM.out, <- HM3.out]
        omega, by
        show w4.ownsRow w.heap.size 35 4 (.slice A4 (m + m3) c4) (m + m3) (rowOf zcell (sgB sb :: commas 1 (shs (ks.take (0 + 1)))))
        rw [HCM.out]
        exact H4.out.1, H4.out.2⟩
      case measure => simp [intOf]; omega
    . have h0' : decide ((0 : Int) < (j : Int)) = true := dqt (by omega)
      have HCM : Hid (commas 1 (shs (ks.take (j + 1))) = commas 1 (shs (ks.take j)) ++ sg [44] :: sh k 1) := zh (by
       rw [take_shs ks HK.out.1, commas_snoc, if_neg]
       intro he
       have := congrArg List.length he
       rw [shs_len, List.length_take, <- HH.out.2.2.2.2.2.1, lnn] at this
       omega)
      have HSG := zh (fun W => HS.out ⟨#[44]⟩ W)
      go_wp2_with fail
      refine (HSG.out wr).mono ?_
      rintro e w2 ⟨rfl, hb2⟩
      have H2 : Hid (Below w.heap.size w (w2.alloc (.cells #[.int .u8 4, .string ⟨#[44]⟩, .int .i64 0, .int .i64 0] 35)) ∧ (w2.alloc (.cells #[.int .u8 4, .string ⟨#[44]⟩, .int .i64 0, .int .i64 0] 35)).ownsRow w.heap.size 35 4 (.slice A1 m c1) m (rowOf zcell (sgB sb :: commas 1 (shs (ks.take j)))) ∧ RdZ (w2.alloc (.cells #[.int .u8 4, .string ⟨#[44]⟩, .int .i64 0, .int .i64 0] 35)) (some ⟨w2.heap.size, 0, none⟩) [sg [44]] ∧ w.heap.size <= (w2.alloc (.cells #[.int .u8 4, .string ⟨#[44]⟩, .int .i64 0, .int .i64 0] 35)).heap.size) :=
       zh (by
        have h1 := HO.out.2.1.trans (hb2.mono HO.out.2.1.size)
        exact ⟨h1.alloc h1.size _, (own_below HO.out.1 hb2).alloc _, rdz_one (x := sg [44]) (Blk.new w2 35 _), (h1.alloc h1.size _).size⟩)
      clear hb2
      go_wp2_with (at_builtin; refine wpList_app_z rfl (.tmp 22) (.tmp 24) rfl w.heap.size m c1 1 1 A1 (some ⟨w2.heap.size, 0, none⟩) (sgB sb :: commas 1 (shs (ks.take j))) [sg [44]] rfl H2.out.2.1 rfl rfl H2.out.2.2.1 (by omega) H2.out.2.2.2 ?_; intro A5 c5 w5 ho5 hg5; have H5 := zh (ai ho5 (app_below H2.out.1 H2.out.2.1 hg5 H2.out.2.2.2)); clear ho5 hg5; have hcell := (H5.out.2.cell (p := ⟨b, off + j, none⟩) HC.out.1).trans HC.out.2)
      refine (HX.out w5 H5.out.2).mono ?_
      rintro e w3 ⟨A3, c3, rfl, ho3, hb3⟩
      have H3 := zh (ai ho3 hb3)
      obtain ⟨m3, hm3⟩ : ∃ z, z = (sh k 1).length := ⟨_, rfl⟩
      have hm39 : m3 <= 800000 := by have := HKL.out; omega
      rw [<- hm3] at H3 |-
      have HM3 := zh hm3
      clear ho3 hb3 hm3 HX
      go_wp2_with (at_builtin; refine wpList_app_z rfl (.tmp 26) (.tmp 32) rfl w.heap.size (m + 1) c5 m3 c3 A5 A3 (sgB sb :: commas 1 (shs (ks.take j)) ++ [sg [44]]) (sh k 1) rfl (own_below H5.out.1 H3.out.2) rfl HM3.out (rdz_ow H3.out.1 HM3.out) (by omega) (by have := H5.out.2.size; have := H3.out.2.size; omega) ?_; intro A4 c4 w4 ho4 hg4; have H4 := zh (ai ho4 (app_below (H5.out.2.trans (H3.out.2.mono H5.out.2.size)) (own_below H5.out.1 H3.out.2) hg4 (by have := H5.out.2.size; have := H3.out.2.size; omega))); clear ho4 hg4)
      go_roundw
      case rel =>
       refine ⟨j + 1, m + 1 + m3, c4, A4, rfl, by go_num, by omega, by rw [HCM.out, lna, lnc, <- HM3.out]; have := HO.out.2.2; omega, by have h1 := H4.out.1; rw [List.append_assoc, List.cons_append, List.singleton_append] at h1; rw [HCM.out]; exact h1, H4.out.2⟩
      case measure => simp [intOf]; omega
  . have hdd : decide ((j : Int) < (n : Int)) = false := dqf (by omega)
    have HF : Hid (ks.take j = ks) := zh (List.take_of_length_le (by rw [<- HH.out.2.2.2.2.2.1]; omega))
    rw [HF.out] at HO
    have HSG := zh (fun W => HS.out cb W)
    go_wp2_with fail
    refine (HSG.out wr).mono ?_
    rintro e w2 ⟨rfl, hb2⟩
    have H2 : Hid (Below w.heap.size w (w2.alloc (.cells #[.int .u8 4, .string cb, .int .i64 0, .int .i64 0] 35)) ∧ (w2.alloc (.cells #[.int .u8 4, .string cb, .int .i64 0, .int .i64 0] 35)).ownsRow w.heap.size 35 4 (.slice A1 m c1) m (rowOf zcell (sgB sb :: commas 1 (shs ks))) ∧ RdZ (w2.alloc (.cells #[.int .u8 4, .string cb, .int .i64 0, .int .i64 0] 35)) (some ⟨w2.heap.size, 0, none⟩) [sgB cb] ∧ w.heap.size <= (w2.alloc (.cells #[.int .u8 4, .string cb, .int .i64 0, .int .i64 0] 35)).heap.size) :=
     zh (by
      have h1 := HO.out.2.1.trans (hb2.mono HO.out.2.1.size)
      exact ⟨h1.alloc h1.size _, (own_below HO.out.1 hb2).alloc _, rdz_one (x := sgB cb) (Blk.new w2 35 _), (h1.alloc h1.size _).size⟩)
    clear hb2
    go_wp2_with (at_builtin; refine wpList_app_z rfl (.tmp 34) (.tmp 37) rfl w.heap.size m c1 1 1 A1 (some ⟨w2.heap.size, 0, none⟩) (sgB sb :: commas 1 (shs ks)) [sgB cb] rfl H2.out.2.1 rfl rfl H2.out.2.2.1 (by omega) H2.out.2.2.2 ?_; intro A5 c5 w5 ho5 hg5; have H5 := zh (ai ho5 (app_below H2.out.1 H2.out.2.1 hg5 H2.out.2.2.2)); clear ho5 hg5)
    have HLN : Hid ((sgB sb :: (commas 1 (shs ks) ++ [sgB cb])).length = m + 1) := zh (by rw [lnc, lna, List.length_singleton]; have := HO.out.2.2; omega)
    go_ret
    refine ⟨A5, c5, by rw [HLN.out]; rfl, ?_, H5.out.2⟩
    rw [HLN.out]
    exact H5.out.1
theorem rp_of {w W : World} {A : Option Addr} {n c : Nat} {o o' : List Tz} (ho : W.ownsRow w.heap.size 35 4 (.slice A n c) n (rowOf zcell o)) (hn : n = o.length) (hb : Below w.heap.size w W) (he : o' = o) : RP w o' (.returned (.slice A n c)) W := by
 subst he
 subst hn
 exact ⟨A, c, rfl, ho, hb⟩
theorem tok_row {w1 : World} {B : Nat} (hB : B <= w1.heap.size) (k : Nat) (s : ByteArray) (iv : Int) :
 (w1.alloc (.cells #[.int .u8 (k : Nat), .string s, .int .i64 iv, .int .i64 0] 35)).ownsRow B 35 4 (.slice (some ⟨w1.heap.size, 0, none⟩) 1 1) 1 (rowOf zcell [⟨k, s, iv, 0⟩]) :=
 own_new [⟨k, s, iv, 0⟩] 1 _ rfl rfl hB (by unfold maxLen; omega)
theorem tok_read {w1 : World} (k : Nat) (s : ByteArray) (iv : Int) :
 RdZ (w1.alloc (.cells #[.int .u8 (k : Nat), .string s, .int .i64 iv, .int .i64 0] 35)) (some ⟨w1.heap.size, 0, none⟩) [⟨k, s, iv, 0⟩] := rdz_one (x := ⟨k, s, iv, 0⟩) (Blk.new w1 35 _)
structure Bst (w w2 : World) (B g : Nat) (x : Tw) (K : Option Addr) (ks : List Tr) (i : Nat) : Prop where
 bel : Below w.heap.size w w2
 blk : Blk w2 g 42 #[.int .u8 (x.op : Nat), .int .i64 x.kids, .int .i64 x.int, .string x.text]
 kid : RdN w2 K (posL (i + 1) ks)
 low : w.heap.size <= g
 gB : g < B
 big : B <= w2.heap.size
 kB : ∀ a, K = some a -> ks ≠ [] -> a.block < B
section
variable {w w2 w3 : World} {B g i : Nat} {x : Tw} {K : Option Addr} {ks : List Tr}
theorem Bst.below (h : Bst w w2 B g x K ks i) (hb : Below w2.heap.size w2 w3) : Bst w w3 B g x K ks i :=
 ⟨h.bel.trans (hb.mono h.bel.size), (hb.block _ h.blk.lt).trans h.blk, h.kid.below hb, h.low, h.gB, Nat.le_trans h.big hb.size, h.kB⟩
theorem Bst.alloc (h : Bst w w2 B g x K ks i) (o : Obj) : Bst w (w2.alloc o) B g x K ks i := h.below ((Below.refl _ _).alloc (nlr _) _)
theorem Bst.lowB (h : Bst w w2 B g x K ks i) : w.heap.size <= B := by have := h.low; have := h.gB; omega
theorem Bst.grown {n c : Nat} {A : Option Addr} {xs : List Value} (h : Bst w w2 B g x K ks i) (ho : w2.ownsRow B 35 4 (.slice A n c) n xs) (hg : w2.grownBy w3 (Value.slice A n c).ownBlock) : Bst w w3 B g x K ks i := by
 have hl : ∀ k, (Value.slice A n c).ownBlock = some k -> B <= k := fun k hk => (World.ownsRow.lt ho k hk).1
 have hb : Below B w2 w3 := (Below.refl _ _).grown hg h.big hl
 refine ⟨h.bel.trans (hb.mono h.lowB), (hb.block _ h.gB).trans h.blk, ?_, h.low, h.gB, Nat.le_trans h.big hb.size, h.kB⟩
 refine RdL.chg (T := fun k => B <= k) h.kid (Chg.of_grown hg (fun r hr => hl r hr)) (fun a ha hne hk => ?_)
 have := h.kB a ha (fun e => hne (by rw [e, posL]))
 omega
theorem Bst.new {w2' : World} (h1 : Below w.heap.size w w2) (h2 : Blk w2 g 42 #[.int .u8 (x.op : Nat), .int .i64 x.kids, .int .i64 x.int, .string x.text]) (h3 : RdN w2 K (posL (i + 1) ks)) (h4 : w.heap.size <= g) (hB : B = w2.heap.size) : Bst w w2 B g x K ks i := by
 subst hB
 refine ⟨h1, h2, h3, h4, h2.lt, nlr _, fun a ha hne => ?_⟩
 rcases h3 with h | ⟨b, off, e, hb, _⟩
 . cases ks with
   | nil => exact absurd rfl hne
   | cons k ks => rw [posL] at h; cases h
 . rw [ha] at e
   obtain rfl := Option.some.inj e
   exact hb
theorem Bst.place (h : Bst w w2 B g x K ks i) (hne : ks ≠ []) : ∃ b off, K = some ⟨b, off, none⟩ := by
 rcases h.kid with h1 | ⟨b, off, h1, h2, h3⟩
 . cases ks with
   | nil => exact absurd rfl hne
   | cons k ks => rw [posL] at h1; cases h1
 . exact ⟨b, off, h1⟩
theorem Bst.kcell {b off j z : Nat} {k : Tr} (h : Bst w w2 B g x (some ⟨b, off, none⟩) ks i) (hk : ks[j]? = some k) (hz : z = i + 1 + (flats (ks.take j)).length) : w2.cell? ⟨b, off + j, none⟩ = some (.int .i64 (z : Nat)) := by
 have hg := posL_get ks (i + 1) j k hk
 rcases h.kid with h1 | ⟨b', off', h1, h2, h3⟩
 . rw [h1] at hg; cases hg
 . injection h1 with h1
   injection h1 with e1 e2
   subst e1
   subst e2
   have := h3 j _ hg 0 _ rfl
   rw [hz]
   rwa [Nat.mul_one, Nat.add_zero] at this
end
theorem run_kid_tail (kb ko c : Nat) (hc : 2 <= c) (w : World) : (Instr.sliceAt 99 (.slice (some ⟨kb, ko, none⟩) 2 c) (some (.int .i64 1)) none none).run prog w = .ok (.slice (some ⟨kb, ko + 1, none⟩) 1 (c - 1)) w := by
 have hu : prog.underlying 99 = some (.slice (prog.elem 99)) := by kernel_rfl
 have hz : (sizeOf (prog.elem 99)).run prog w = .ok 1 w := by kernel_rfl
 have h1 : c ≠ 1 := by omega
 rw [run_sliceAt_slice w 99 _ _ _ _ hu, run_slice_l w 99 (some ⟨kb, ko, none⟩) 2 c hu .i64 1 (by omega) (by omega), hz]
 show Result.ok (Value.slice (if c = 1 then _ else _) _ _) w = _
 rw [if_neg h1]
 rfl
theorem rt_cok : ∀ {kd : Nat} {t : Tr}, Rt kd t -> t.cok := by
 have hL : ∀ ks : List Tr, (∀ k ∈ ks, k.cok) -> coks ks := by
  intro ks
  induction ks with
  | nil => intro _; exact trivial
  | cons k ks ih => intro h; exact ⟨h k (by simp), ih fun j hj => h j (by simp [hj])⟩
 intro kd t h
 induction h with
 | word h => exact ⟨rfl, trivial⟩
 | int i => exact ⟨rfl, trivial⟩
 | text s => exact ⟨rfl, trivial⟩
 | name h => exact ⟨rfl, trivial⟩
 | take h => exact ⟨rfl, trivial⟩
 | list h ih => exact ⟨rfl, hL _ ih⟩
 | call ho hs h ih => exact ⟨rfl, hL _ ih⟩
 | one ho h ih => exact ⟨rfl, ih, trivial⟩
 | num h h2 ih ih2 => exact ⟨rfl, ih, ih2, trivial⟩
 | fork h ih => exact ⟨rfl, ih, trivial⟩
 | not h ih => exact ⟨rfl, ih, trivial⟩
 | pre ho h ih => exact ⟨rfl, ih, trivial⟩
 | at_ h h2 ih ih2 => exact ⟨rfl, ih, ih2, trivial⟩
 | cmp ho h h2 ih ih2 => exact ⟨rfl, ih, ih2, trivial⟩
 | bin ho h h2 ih ih2 => exact ⟨rfl, ih, ih2, trivial⟩
 | block h ih => exact ⟨rfl, hL _ ih⟩
 | put ho hs h ih => exact ⟨rfl, ih, trivial⟩
 | if2 h h2 ih ih2 => exact ⟨rfl, ih, ih2, trivial⟩
 | if3 h h2 h3 ih ih2 ih3 => exact ⟨rfl, ih, ih2, ih3, trivial⟩
 | while_ h h2 ih ih2 => exact ⟨rfl, ih, ih2, trivial⟩
 | do_ ho h ih => exact ⟨rfl, ih, trivial⟩
structure Twg (w : World) (l : List Tw) (A : Option Addr) (i : Nat) (r : List Tw) (x : Tw) (ks : List Tr) : Prop where
 len : l.length <= 100000
 drop : l.drop i = (Tr.node x ks).flat ++ r
 rd : RdL twcell 4 w A l
 cok : (Tr.node x ks).cok
theorem Twg.at_ {w : World} {l r : List Tw} {A : Option Addr} {i : Nat} {x : Tw} {ks : List Tr} (h : Twg w l A i r x ks) : l[i]? = some x ∧ i < l.length ∧ l.drop (i + 1) = flats ks ++ r ∧ ∃ b off, A = some ⟨b, off, none⟩ ∧ b < w.heap.size ∧ ∀ W, Below w.heap.size w W -> W.rangeAt b (off + i * 4) (twcell x) := by
 have h0 := h.drop
 rw [Tr.flat, List.cons_append] at h0
 have h1 := drop_head h0
 refine ⟨h1.1, (List.getElem?_eq_some_iff.1 h1.1).1, h1.2, ?_⟩
 rcases h.rd with h2 | ⟨b, off, h2, h3, h4⟩
 . rw [h2] at h1; simp at h1
 . exact ⟨b, off, h2, h3, fun W hW j v hv => (hW.cell (p := ⟨b, _, none⟩) h3).trans (h4 i x h1.1 j v hv)⟩
theorem Twg.kids {w : World} {l r : List Tw} {A : Option Addr} {i : Nat} {x : Tw} {ks : List Tr} (h : Twg w l A i r x ks) (c n : Nat) (hn : n = ks.length) (W : World) (hW : Below w.heap.size w W) :
 Calls prog 66 #[.slice A l.length c, .int .i64 (i : Nat)] W fun e w' => ∃ K cK, e = .returned (.slice K n cK) ∧ n <= cK ∧ RdN w' K (posL (i + 1) ks) ∧ (∀ a, K = some a -> W.heap.size <= a.block) ∧ Below W.heap.size W w' := by
 subst hn
 refine (refKids_any x ks A c i l r W h.len h.cok h.drop (rdw_of (h.rd.below hW))).mono ?_
 rintro e w' ⟨⟨K, cK, rfl, ho⟩, hb⟩
 refine ⟨K, cK, rfl, T8.own_cap ho, rdn_own ho (by rw [posL_length]), fun a ha => ?_, hb⟩
 subst ha
 exact (World.ownsRow.lt ho a.block rfl).1
theorem Twg.kid {w : World} {l r : List Tw} {A : Option Addr} {i : Nat} {x : Tw} {ks : List Tr} (h : Twg w l A i r x ks) {N : Nat} (hE : AtR N) {j : Nat} {k : Tr} (hk : ks[j]? = some k) (hR : Rt 0 k ∧ k.flat.length <= N) (c a : Nat) (ha : a <= 9) (W : World) (hW : Below w.heap.size w W) :
 Calls prog 63 #[.slice A l.length c, .int .i64 ((i + 1 + (flats (ks.take j)).length : Nat) : Int), .int .i64 (a : Nat)] W (RP W (sh k a)) :=
 hE k hR.1 hR.2 l A c _ _ a W h.len ha (drop_kid h.at_.2.2.1 hk) (h.rd.below hW)
theorem Twg.blk {w : World} {l r : List Tw} {A : Option Addr} {i : Nat} {x : Tw} {ks : List Tr} (h : Twg w l A i r x ks) {N : Nat} (hE : BlockR N) {j : Nat} {k : Tr} (hk : ks[j]? = some k) (hR : Rt 1 k ∧ k.flat.length <= N) (c : Nat) (W : World) (hW : Below w.heap.size w W) :
 Calls prog 67 #[.slice A l.length c, .int .i64 ((i + 1 + (flats (ks.take j)).length : Nat) : Int)] W (RP W (sh k 10)) :=
 hE k hR.1 hR.2 l A c _ _ W h.len (drop_kid h.at_.2.2.1 hk) (h.rd.below hW)
theorem Twg.few {w : World} {l r : List Tw} {A : Option Addr} {i : Nat} {x : Tw} {ks : List Tr} (h : Twg w l A i r x ks) {k : Tr} (hk : k ∈ ks) {a : Nat} (hf : Few a k) : (sh k a).length <= 800000 := by
 unfold Few at hf
 have h1 := T8.flat_le hk
 have h2 := drop_len h.at_.2.2.1
 have h3 := h.len
 rw [lna] at h2
 omega
theorem Twg.pos {w : World} {l r : List Tw} {A : Option Addr} {i : Nat} {x : Tw} {ks : List Tr} (h : Twg w l A i r x ks) {j : Nat} {k : Tr} (hk : ks[j]? = some k) : i + 1 + (flats (ks.take j)).length <= 100000 := by
 have h1 := drop_len h.at_.2.2.1
 have h2 : (flats ks).length = (flats (ks.take j)).length + (flats (ks.drop j)).length := by rw [<- lna, <- flats_append, List.take_append_drop]
 have h3 := flat_pos k
 have h4 : (flats (ks.drop j)).length = k.flat.length + (flats (ks.drop (j + 1))).length := by rw [drop_flats ks hk, lna]
 have h5 := h.len
 rw [lna] at h1
 omega
theorem Twg.lis {w : World} {l r : List Tw} {A : Option Addr} {i : Nat} {x : Tw} {ks : List Tr} (h : Twg w l A i r x ks) {N : Nat} (hE : AtR N) (hks : ∀ k ∈ ks, Rt 0 k ∧ k.flat.length <= N) (sb cb : ByteArray) (c cK n : Nat) (hn : n = ks.length) (K : Option Addr) (W : World) (hW : Below w.heap.size w W) (hK : RdN W K (posL (i + 1) ks)) :
 Calls prog 121 #[.slice A l.length c, .slice K n cK, .string sb, .string cb] W (RP W (sgB sb :: (commas 1 (shs ks) ++ [sgB cb]))) :=
 rlist_any N hE ks hks sb cb l A K c cK (i + 1) n r W h.len h.at_.2.2.1 (h.rd.below hW) hK hn
theorem Twg.lisn {w : World} {l r : List Tw} {A : Option Addr} {i : Nat} {x : Tw} {ks : List Tr} (h : Twg w l A i r x ks) {N : Nat} (hks : ∀ k ∈ ks, Rt 0 k ∧ k.flat.length <= N) : (commas 1 (shs ks)).length <= 800000 := by
 have h1 := commas_few hks
 have h2 := drop_len h.at_.2.2.1
 have h3 := h.len
 rw [lna] at h2
 omega
theorem rb20 (N : Nat) (hE : AtR N) (hB : BlockR N) (l : List Tw) (A : Option Addr) (c i : Nat) (r : List Tw) (w : World) (h : Twg w l A i r ⟨20, 0, 0, bs []⟩ []) :
 Calls prog 100 #[.slice A l.length c, .int .i64 (i : Nat)] w (RP w (bareS ⟨20, 0, 0, bs []⟩ (shs []))) := by
 have HT := zh h
 obtain ⟨ha1, hi, ha2, b, off, rfl, hbl, hrg⟩ := h.at_
 have HRG : Hid (w.rangeAt b (off + i * 4) [.int .u8 20, .int .i64 0, .int .i64 0, .string (bs [])]) := zh (hrg w (Below.refl _ _))
 have HKD := zh (fun W hW => h.kids c 0 rfl W hW)
 have HM := zh mark20
 obtain ⟨q, hq⟩ := ex l.length
 have HQ := zh hq
 have hq9 : q <= 100000 := by have := h.len; omega
 rw [<- hq] at hi |-
 have a0 : (0 : Int) <= (i : Int) := by omega
 have a1 : (i : Int) < (q : Int) := by omega
 have HB0 := zh (Blk.new w 42 #[.int .u8 0, .int .i64 0, .int .i64 0, .string ⟨#[]⟩])
 have HWB := zh ((Below.refl w.heap.size w).alloc (nlr _) (.cells #[.int .u8 20, .int .i64 0, .int .i64 0, .string (bs [])] 42))
 have HWA := zh (Blk.new w 42 #[.int .u8 20, .int .i64 0, .int .i64 0, .string (bs [])])
 rw [<- HQ.out] at HKD
 clear h hrg hE hB hq hbl ha1 ha2
 go_in
 go_upto_region 2 with (first | (refine wpList_load_mid rfl 42 (.tmp 17) rfl b (off + i * 4) rfl [.int .u8 20, .int .i64 0, .int .i64 0, .string (bs [])] (.struct _) HRG.out underlying42 rfl (by kernel_rfl) ?_) | (refine wpList_store_row rfl 42 (.tmp 5) (.tmp 18) rfl w.heap.size #[.int .u8 20, .int .i64 0, .int .i64 0, .string (bs [])] rfl rfl 42 #[.int .u8 0, .int .i64 0, .int .i64 0, .string ⟨#[]⟩] HB0.out (by kernel_rfl) rfl (by kernel_rfl) ?_; rw [World.setRow_alloc_new]) | fail)
 clear HB0
 obtain ⟨g, hg⟩ := ex w.heap.size
 rw [<- hg] at HWA |-
 generalize w.alloc _ = wa at *
 have HG := zh hg
 clear hg
 go_wp2_with fail
 refine (HKD.out wa HWB.out).mono ?_
 rintro e w2 ⟨K, cK, rfl, hcK, hK, hKb, hb2⟩
 obtain ⟨B, hBw⟩ := ex w2.heap.size
 have HS : Hid (Bst w w2 B g ⟨20, 0, 0, bs []⟩ K [] i) := zh (Bst.new (w2' := w2) (HWB.out.trans (hb2.mono HWB.out.size)) ((hb2.block _ HWA.out.lt).trans HWA.out) hK (by rw [HG.out]; exact nlr _) hBw)
 have hg2 : g < w2.heap.size := HS.out.blk.lt
 have c0 : w2.cell? ⟨g, 0, none⟩ = some (.int .u8 20) := HS.out.blk.cell 0
 have c2 : w2.cell? ⟨g, 2, none⟩ = some (.int .i64 (0)) := HS.out.blk.cell 2
 have c3 : w2.cell? ⟨g, 3, none⟩ = some (.string (bs [])) := HS.out.blk.cell 3
 have HKB := zh (ai hKb hcK)
 clear hK hKb hb2 hcK hBw
 go_wp2_with fail
 refine (rwidth20 _).mono ?_
 rintro e w3 ⟨rfl, hw⟩
 rw [hw]
 clear hw w3
 go_wp2_with fail
 refine (HM.out w2).mono ?_
 rintro e w4 ⟨rfl, hb4⟩
 have HS4 := zh (HS.out.below hb4)
 clear hb4
 have HR4 : Hid ((w4.alloc (.cells #[.int .u8 1, .string (⟨#[110, 111, 110, 101]⟩), .int .i64 (0), .int .i64 0] 35)).ownsRow B 35 4 (.slice (some ⟨w4.heap.size, 0, none⟩) 1 1) 1 (rowOf zcell [⟨1, ⟨#[110, 111, 110, 101]⟩, 0, 0⟩])) := zh (tok_row HS4.out.big 1 (⟨#[110, 111, 110, 101]⟩) (0))
 have HA4 := zh (HS4.out.alloc (.cells #[.int .u8 1, .string (⟨#[110, 111, 110, 101]⟩), .int .i64 (0), .int .i64 0] 35))
 go_wp2_with fail
 go_ret
 exact rp_of (own_mono HR4.out HA4.out.lowB) (rfl) HA4.out.bel (rfl)
theorem rb21 (N : Nat) (hE : AtR N) (hB : BlockR N) (l : List Tw) (A : Option Addr) (c i : Nat) (r : List Tw) (w : World) (h : Twg w l A i r ⟨21, 0, 0, bs []⟩ []) :
 Calls prog 100 #[.slice A l.length c, .int .i64 (i : Nat)] w (RP w (bareS ⟨21, 0, 0, bs []⟩ (shs []))) := by
 have HT := zh h
 obtain ⟨ha1, hi, ha2, b, off, rfl, hbl, hrg⟩ := h.at_
 have HRG : Hid (w.rangeAt b (off + i * 4) [.int .u8 21, .int .i64 0, .int .i64 0, .string (bs [])]) := zh (hrg w (Below.refl _ _))
 have HKD := zh (fun W hW => h.kids c 0 rfl W hW)
 have HM := zh mark21
 obtain ⟨q, hq⟩ := ex l.length
 have HQ := zh hq
 have hq9 : q <= 100000 := by have := h.len; omega
 rw [<- hq] at hi |-
 have a0 : (0 : Int) <= (i : Int) := by omega
 have a1 : (i : Int) < (q : Int) := by omega
 have HB0 := zh (Blk.new w 42 #[.int .u8 0, .int .i64 0, .int .i64 0, .string ⟨#[]⟩])
 have HWB := zh ((Below.refl w.heap.size w).alloc (nlr _) (.cells #[.int .u8 21, .int .i64 0, .int .i64 0, .string (bs [])] 42))
 have HWA := zh (Blk.new w 42 #[.int .u8 21, .int .i64 0, .int .i64 0, .string (bs [])])
 rw [<- HQ.out] at HKD
 clear h hrg hE hB hq hbl ha1 ha2
 go_in
 go_upto_region 2 with (first | (refine wpList_load_mid rfl 42 (.tmp 17) rfl b (off + i * 4) rfl [.int .u8 21, .int .i64 0, .int .i64 0, .string (bs [])] (.struct _) HRG.out underlying42 rfl (by kernel_rfl) ?_) | (refine wpList_store_row rfl 42 (.tmp 5) (.tmp 18) rfl w.heap.size #[.int .u8 21, .int .i64 0, .int .i64 0, .string (bs [])] rfl rfl 42 #[.int .u8 0, .int .i64 0, .int .i64 0, .string ⟨#[]⟩] HB0.out (by kernel_rfl) rfl (by kernel_rfl) ?_; rw [World.setRow_alloc_new]) | fail)
 clear HB0
 obtain ⟨g, hg⟩ := ex w.heap.size
 rw [<- hg] at HWA |-
 generalize w.alloc _ = wa at *
 have HG := zh hg
 clear hg
 go_wp2_with fail
 refine (HKD.out wa HWB.out).mono ?_
 rintro e w2 ⟨K, cK, rfl, hcK, hK, hKb, hb2⟩
 obtain ⟨B, hBw⟩ := ex w2.heap.size
 have HS : Hid (Bst w w2 B g ⟨21, 0, 0, bs []⟩ K [] i) := zh (Bst.new (w2' := w2) (HWB.out.trans (hb2.mono HWB.out.size)) ((hb2.block _ HWA.out.lt).trans HWA.out) hK (by rw [HG.out]; exact nlr _) hBw)
 have hg2 : g < w2.heap.size := HS.out.blk.lt
 have c0 : w2.cell? ⟨g, 0, none⟩ = some (.int .u8 21) := HS.out.blk.cell 0
 have c2 : w2.cell? ⟨g, 2, none⟩ = some (.int .i64 (0)) := HS.out.blk.cell 2
 have c3 : w2.cell? ⟨g, 3, none⟩ = some (.string (bs [])) := HS.out.blk.cell 3
 have HKB := zh (ai hKb hcK)
 clear hK hKb hb2 hcK hBw
 go_wp2_with fail
 refine (rwidth21 _).mono ?_
 rintro e w3 ⟨rfl, hw⟩
 rw [hw]
 clear hw w3
 go_wp2_with fail
 refine (HM.out w2).mono ?_
 rintro e w4 ⟨rfl, hb4⟩
 have HS4 := zh (HS.out.below hb4)
 clear hb4
 have HR4 : Hid ((w4.alloc (.cells #[.int .u8 1, .string (⟨#[116, 114, 117, 101]⟩), .int .i64 (0), .int .i64 0] 35)).ownsRow B 35 4 (.slice (some ⟨w4.heap.size, 0, none⟩) 1 1) 1 (rowOf zcell [⟨1, ⟨#[116, 114, 117, 101]⟩, 0, 0⟩])) := zh (tok_row HS4.out.big 1 (⟨#[116, 114, 117, 101]⟩) (0))
 have HA4 := zh (HS4.out.alloc (.cells #[.int .u8 1, .string (⟨#[116, 114, 117, 101]⟩), .int .i64 (0), .int .i64 0] 35))
 go_wp2_with fail
 go_ret
 exact rp_of (own_mono HR4.out HA4.out.lowB) (rfl) HA4.out.bel (rfl)
theorem rb22 (N : Nat) (hE : AtR N) (hB : BlockR N) (l : List Tw) (A : Option Addr) (c i : Nat) (r : List Tw) (w : World) (h : Twg w l A i r ⟨22, 0, 0, bs []⟩ []) :
 Calls prog 100 #[.slice A l.length c, .int .i64 (i : Nat)] w (RP w (bareS ⟨22, 0, 0, bs []⟩ (shs []))) := by
 have HT := zh h
 obtain ⟨ha1, hi, ha2, b, off, rfl, hbl, hrg⟩ := h.at_
 have HRG : Hid (w.rangeAt b (off + i * 4) [.int .u8 22, .int .i64 0, .int .i64 0, .string (bs [])]) := zh (hrg w (Below.refl _ _))
 have HKD := zh (fun W hW => h.kids c 0 rfl W hW)
 have HM := zh mark22
 obtain ⟨q, hq⟩ := ex l.length
 have HQ := zh hq
 have hq9 : q <= 100000 := by have := h.len; omega
 rw [<- hq] at hi |-
 have a0 : (0 : Int) <= (i : Int) := by omega
 have a1 : (i : Int) < (q : Int) := by omega
 have HB0 := zh (Blk.new w 42 #[.int .u8 0, .int .i64 0, .int .i64 0, .string ⟨#[]⟩])
 have HWB := zh ((Below.refl w.heap.size w).alloc (nlr _) (.cells #[.int .u8 22, .int .i64 0, .int .i64 0, .string (bs [])] 42))
 have HWA := zh (Blk.new w 42 #[.int .u8 22, .int .i64 0, .int .i64 0, .string (bs [])])
 rw [<- HQ.out] at HKD
 clear h hrg hE hB hq hbl ha1 ha2
 go_in
 go_upto_region 2 with (first | (refine wpList_load_mid rfl 42 (.tmp 17) rfl b (off + i * 4) rfl [.int .u8 22, .int .i64 0, .int .i64 0, .string (bs [])] (.struct _) HRG.out underlying42 rfl (by kernel_rfl) ?_) | (refine wpList_store_row rfl 42 (.tmp 5) (.tmp 18) rfl w.heap.size #[.int .u8 22, .int .i64 0, .int .i64 0, .string (bs [])] rfl rfl 42 #[.int .u8 0, .int .i64 0, .int .i64 0, .string ⟨#[]⟩] HB0.out (by kernel_rfl) rfl (by kernel_rfl) ?_; rw [World.setRow_alloc_new]) | fail)
 clear HB0
 obtain ⟨g, hg⟩ := ex w.heap.size
 rw [<- hg] at HWA |-
 generalize w.alloc _ = wa at *
 have HG := zh hg
 clear hg
 go_wp2_with fail
 refine (HKD.out wa HWB.out).mono ?_
 rintro e w2 ⟨K, cK, rfl, hcK, hK, hKb, hb2⟩
 obtain ⟨B, hBw⟩ := ex w2.heap.size
 have HS : Hid (Bst w w2 B g ⟨22, 0, 0, bs []⟩ K [] i) := zh (Bst.new (w2' := w2) (HWB.out.trans (hb2.mono HWB.out.size)) ((hb2.block _ HWA.out.lt).trans HWA.out) hK (by rw [HG.out]; exact nlr _) hBw)
 have hg2 : g < w2.heap.size := HS.out.blk.lt
 have c0 : w2.cell? ⟨g, 0, none⟩ = some (.int .u8 22) := HS.out.blk.cell 0
 have c2 : w2.cell? ⟨g, 2, none⟩ = some (.int .i64 (0)) := HS.out.blk.cell 2
 have c3 : w2.cell? ⟨g, 3, none⟩ = some (.string (bs [])) := HS.out.blk.cell 3
 have HKB := zh (ai hKb hcK)
 clear hK hKb hb2 hcK hBw
 go_wp2_with fail
 refine (rwidth22 _).mono ?_
 rintro e w3 ⟨rfl, hw⟩
 rw [hw]
 clear hw w3
 go_wp2_with fail
 refine (HM.out w2).mono ?_
 rintro e w4 ⟨rfl, hb4⟩
 have HS4 := zh (HS.out.below hb4)
 clear hb4
 have HR4 : Hid ((w4.alloc (.cells #[.int .u8 1, .string (⟨#[102, 97, 108, 115, 101]⟩), .int .i64 (0), .int .i64 0] 35)).ownsRow B 35 4 (.slice (some ⟨w4.heap.size, 0, none⟩) 1 1) 1 (rowOf zcell [⟨1, ⟨#[102, 97, 108, 115, 101]⟩, 0, 0⟩])) := zh (tok_row HS4.out.big 1 (⟨#[102, 97, 108, 115, 101]⟩) (0))
 have HA4 := zh (HS4.out.alloc (.cells #[.int .u8 1, .string (⟨#[102, 97, 108, 115, 101]⟩), .int .i64 (0), .int .i64 0] 35))
 go_wp2_with fail
 go_ret
 exact rp_of (own_mono HR4.out HA4.out.lowB) (rfl) HA4.out.bel (rfl)
theorem rb57 (N : Nat) (hE : AtR N) (hB : BlockR N) (l : List Tw) (A : Option Addr) (c i : Nat) (r : List Tw) (w : World) (h : Twg w l A i r ⟨57, 0, 0, bs []⟩ []) :
 Calls prog 100 #[.slice A l.length c, .int .i64 (i : Nat)] w (RP w (bareS ⟨57, 0, 0, bs []⟩ (shs []))) := by
 have HT := zh h
 obtain ⟨ha1, hi, ha2, b, off, rfl, hbl, hrg⟩ := h.at_
 have HRG : Hid (w.rangeAt b (off + i * 4) [.int .u8 57, .int .i64 0, .int .i64 0, .string (bs [])]) := zh (hrg w (Below.refl _ _))
 have HKD := zh (fun W hW => h.kids c 0 rfl W hW)
 have HM := zh mark57
 obtain ⟨q, hq⟩ := ex l.length
 have HQ := zh hq
 have hq9 : q <= 100000 := by have := h.len; omega
 rw [<- hq] at hi |-
 have a0 : (0 : Int) <= (i : Int) := by omega
 have a1 : (i : Int) < (q : Int) := by omega
 have HB0 := zh (Blk.new w 42 #[.int .u8 0, .int .i64 0, .int .i64 0, .string ⟨#[]⟩])
 have HWB := zh ((Below.refl w.heap.size w).alloc (nlr _) (.cells #[.int .u8 57, .int .i64 0, .int .i64 0, .string (bs [])] 42))
 have HWA := zh (Blk.new w 42 #[.int .u8 57, .int .i64 0, .int .i64 0, .string (bs [])])
 rw [<- HQ.out] at HKD
 clear h hrg hE hB hq hbl ha1 ha2
 go_in
 go_upto_region 2 with (first | (refine wpList_load_mid rfl 42 (.tmp 17) rfl b (off + i * 4) rfl [.int .u8 57, .int .i64 0, .int .i64 0, .string (bs [])] (.struct _) HRG.out underlying42 rfl (by kernel_rfl) ?_) | (refine wpList_store_row rfl 42 (.tmp 5) (.tmp 18) rfl w.heap.size #[.int .u8 57, .int .i64 0, .int .i64 0, .string (bs [])] rfl rfl 42 #[.int .u8 0, .int .i64 0, .int .i64 0, .string ⟨#[]⟩] HB0.out (by kernel_rfl) rfl (by kernel_rfl) ?_; rw [World.setRow_alloc_new]) | fail)
 clear HB0
 obtain ⟨g, hg⟩ := ex w.heap.size
 rw [<- hg] at HWA |-
 generalize w.alloc _ = wa at *
 have HG := zh hg
 clear hg
 go_wp2_with fail
 refine (HKD.out wa HWB.out).mono ?_
 rintro e w2 ⟨K, cK, rfl, hcK, hK, hKb, hb2⟩
 obtain ⟨B, hBw⟩ := ex w2.heap.size
 have HS : Hid (Bst w w2 B g ⟨57, 0, 0, bs []⟩ K [] i) := zh (Bst.new (w2' := w2) (HWB.out.trans (hb2.mono HWB.out.size)) ((hb2.block _ HWA.out.lt).trans HWA.out) hK (by rw [HG.out]; exact nlr _) hBw)
 have hg2 : g < w2.heap.size := HS.out.blk.lt
 have c0 : w2.cell? ⟨g, 0, none⟩ = some (.int .u8 57) := HS.out.blk.cell 0
 have c2 : w2.cell? ⟨g, 2, none⟩ = some (.int .i64 (0)) := HS.out.blk.cell 2
 have c3 : w2.cell? ⟨g, 3, none⟩ = some (.string (bs [])) := HS.out.blk.cell 3
 have HKB := zh (ai hKb hcK)
 clear hK hKb hb2 hcK hBw
 go_wp2_with fail
 refine (rwidth57 _).mono ?_
 rintro e w3 ⟨rfl, hw⟩
 rw [hw]
 clear hw w3
 go_wp2_with fail
 refine (HM.out w2).mono ?_
 rintro e w4 ⟨rfl, hb4⟩
 have HS4 := zh (HS.out.below hb4)
 clear hb4
 have HR4 : Hid ((w4.alloc (.cells #[.int .u8 1, .string (⟨#[118, 101, 114, 115, 105, 111, 110]⟩), .int .i64 (0), .int .i64 0] 35)).ownsRow B 35 4 (.slice (some ⟨w4.heap.size, 0, none⟩) 1 1) 1 (rowOf zcell [⟨1, ⟨#[118, 101, 114, 115, 105, 111, 110]⟩, 0, 0⟩])) := zh (tok_row HS4.out.big 1 (⟨#[118, 101, 114, 115, 105, 111, 110]⟩) (0))
 have HA4 := zh (HS4.out.alloc (.cells #[.int .u8 1, .string (⟨#[118, 101, 114, 115, 105, 111, 110]⟩), .int .i64 (0), .int .i64 0] 35))
 go_wp2_with fail
 go_ret
 exact rp_of (own_mono HR4.out HA4.out.lowB) (rfl) HA4.out.bel (rfl)
theorem rb23 (N : Nat) (hE : AtR N) (hB : BlockR N) (iv : Int) (l : List Tw) (A : Option Addr) (c i : Nat) (r : List Tw) (w : World) (h : Twg w l A i r ⟨23, 0, iv, bs []⟩ []) :
 Calls prog 100 #[.slice A l.length c, .int .i64 (i : Nat)] w (RP w (bareS ⟨23, 0, iv, bs []⟩ (shs []))) := by
 have HT := zh h
 obtain ⟨ha1, hi, ha2, b, off, rfl, hbl, hrg⟩ := h.at_
 have HRG : Hid (w.rangeAt b (off + i * 4) [.int .u8 23, .int .i64 0, .int .i64 iv, .string (bs [])]) := zh (hrg w (Below.refl _ _))
 have HKD := zh (fun W hW => h.kids c 0 rfl W hW)
 obtain ⟨q, hq⟩ := ex l.length
 have HQ := zh hq
 have hq9 : q <= 100000 := by have := h.len; omega
 rw [<- hq] at hi |-
 have a0 : (0 : Int) <= (i : Int) := by omega
 have a1 : (i : Int) < (q : Int) := by omega
 have HB0 := zh (Blk.new w 42 #[.int .u8 0, .int .i64 0, .int .i64 0, .string ⟨#[]⟩])
 have HWB := zh ((Below.refl w.heap.size w).alloc (nlr _) (.cells #[.int .u8 23, .int .i64 0, .int .i64 iv, .string (bs [])] 42))
 have HWA := zh (Blk.new w 42 #[.int .u8 23, .int .i64 0, .int .i64 iv, .string (bs [])])
 rw [<- HQ.out] at HKD
 clear h hrg hE hB hq hbl ha1 ha2
 go_in
 go_upto_region 2 with (first | (refine wpList_load_mid rfl 42 (.tmp 17) rfl b (off + i * 4) rfl [.int .u8 23, .int .i64 0, .int .i64 iv, .string (bs [])] (.struct _) HRG.out underlying42 rfl (by kernel_rfl) ?_) | (refine wpList_store_row rfl 42 (.tmp 5) (.tmp 18) rfl w.heap.size #[.int .u8 23, .int .i64 0, .int .i64 iv, .string (bs [])] rfl rfl 42 #[.int .u8 0, .int .i64 0, .int .i64 0, .string ⟨#[]⟩] HB0.out (by kernel_rfl) rfl (by kernel_rfl) ?_; rw [World.setRow_alloc_new]) | fail)
 clear HB0
 obtain ⟨g, hg⟩ := ex w.heap.size
 rw [<- hg] at HWA |-
 generalize w.alloc _ = wa at *
 have HG := zh hg
 clear hg
 go_wp2_with fail
 refine (HKD.out wa HWB.out).mono ?_
 rintro e w2 ⟨K, cK, rfl, hcK, hK, hKb, hb2⟩
 obtain ⟨B, hBw⟩ := ex w2.heap.size
 have HS : Hid (Bst w w2 B g ⟨23, 0, iv, bs []⟩ K [] i) := zh (Bst.new (w2' := w2) (HWB.out.trans (hb2.mono HWB.out.size)) ((hb2.block _ HWA.out.lt).trans HWA.out) hK (by rw [HG.out]; exact nlr _) hBw)
 have hg2 : g < w2.heap.size := HS.out.blk.lt
 have c0 : w2.cell? ⟨g, 0, none⟩ = some (.int .u8 23) := HS.out.blk.cell 0
 have c2 : w2.cell? ⟨g, 2, none⟩ = some (.int .i64 (iv)) := HS.out.blk.cell 2
 have c3 : w2.cell? ⟨g, 3, none⟩ = some (.string (bs [])) := HS.out.blk.cell 3
 have HKB := zh (ai hKb hcK)
 clear hK hKb hb2 hcK hBw
 go_wp2_with fail
 refine (rwidth23 _).mono ?_
 rintro e w3 ⟨rfl, hw⟩
 rw [hw]
 clear hw w3
 go_wp2_with fail
 have HR3 : Hid ((w2.alloc (.cells #[.int .u8 2, .string (⟨#[]⟩), .int .i64 (iv), .int .i64 0] 35)).ownsRow B 35 4 (.slice (some ⟨w2.heap.size, 0, none⟩) 1 1) 1 (rowOf zcell [⟨2, ⟨#[]⟩, iv, 0⟩])) := zh (tok_row HS.out.big 2 (⟨#[]⟩) (iv))
 have HA3 := zh (HS.out.alloc (.cells #[.int .u8 2, .string (⟨#[]⟩), .int .i64 (iv), .int .i64 0] 35))
 go_wp2_with fail
 go_ret
 exact rp_of (own_mono HR3.out HA3.out.lowB) (rfl) HA3.out.bel (rfl)
theorem rb24 (N : Nat) (hE : AtR N) (hB : BlockR N) (s : ByteArray) (l : List Tw) (A : Option Addr) (c i : Nat) (r : List Tw) (w : World) (h : Twg w l A i r ⟨24, 0, 0, s⟩ []) :
 Calls prog 100 #[.slice A l.length c, .int .i64 (i : Nat)] w (RP w (bareS ⟨24, 0, 0, s⟩ (shs []))) := by
 have HT := zh h
 obtain ⟨ha1, hi, ha2, b, off, rfl, hbl, hrg⟩ := h.at_
 have HRG : Hid (w.rangeAt b (off + i * 4) [.int .u8 24, .int .i64 0, .int .i64 0, .string (s)]) := zh (hrg w (Below.refl _ _))
 have HKD := zh (fun W hW => h.kids c 0 rfl W hW)
 obtain ⟨q, hq⟩ := ex l.length
 have HQ := zh hq
 have hq9 : q <= 100000 := by have := h.len; omega
 rw [<- hq] at hi |-
 have a0 : (0 : Int) <= (i : Int) := by omega
 have a1 : (i : Int) < (q : Int) := by omega
 have HB0 := zh (Blk.new w 42 #[.int .u8 0, .int .i64 0, .int .i64 0, .string ⟨#[]⟩])
 have HWB := zh ((Below.refl w.heap.size w).alloc (nlr _) (.cells #[.int .u8 24, .int .i64 0, .int .i64 0, .string (s)] 42))
 have HWA := zh (Blk.new w 42 #[.int .u8 24, .int .i64 0, .int .i64 0, .string (s)])
 rw [<- HQ.out] at HKD
 clear h hrg hE hB hq hbl ha1 ha2
 go_in
 go_upto_region 2 with (first | (refine wpList_load_mid rfl 42 (.tmp 17) rfl b (off + i * 4) rfl [.int .u8 24, .int .i64 0, .int .i64 0, .string (s)] (.struct _) HRG.out underlying42 rfl (by kernel_rfl) ?_) | (refine wpList_store_row rfl 42 (.tmp 5) (.tmp 18) rfl w.heap.size #[.int .u8 24, .int .i64 0, .int .i64 0, .string (s)] rfl rfl 42 #[.int .u8 0, .int .i64 0, .int .i64 0, .string ⟨#[]⟩] HB0.out (by kernel_rfl) rfl (by kernel_rfl) ?_; rw [World.setRow_alloc_new]) | fail)
 clear HB0
 obtain ⟨g, hg⟩ := ex w.heap.size
 rw [<- hg] at HWA |-
 generalize w.alloc _ = wa at *
 have HG := zh hg
 clear hg
 go_wp2_with fail
 refine (HKD.out wa HWB.out).mono ?_
 rintro e w2 ⟨K, cK, rfl, hcK, hK, hKb, hb2⟩
 obtain ⟨B, hBw⟩ := ex w2.heap.size
 have HS : Hid (Bst w w2 B g ⟨24, 0, 0, s⟩ K [] i) := zh (Bst.new (w2' := w2) (HWB.out.trans (hb2.mono HWB.out.size)) ((hb2.block _ HWA.out.lt).trans HWA.out) hK (by rw [HG.out]; exact nlr _) hBw)
 have hg2 : g < w2.heap.size := HS.out.blk.lt
 have c0 : w2.cell? ⟨g, 0, none⟩ = some (.int .u8 24) := HS.out.blk.cell 0
 have c2 : w2.cell? ⟨g, 2, none⟩ = some (.int .i64 (0)) := HS.out.blk.cell 2
 have c3 : w2.cell? ⟨g, 3, none⟩ = some (.string (s)) := HS.out.blk.cell 3
 have HKB := zh (ai hKb hcK)
 clear hK hKb hb2 hcK hBw
 go_wp2_with fail
 refine (rwidth24 _).mono ?_
 rintro e w3 ⟨rfl, hw⟩
 rw [hw]
 clear hw w3
 go_wp2_with fail
 have HR3 : Hid ((w2.alloc (.cells #[.int .u8 3, .string (s), .int .i64 (0), .int .i64 0] 35)).ownsRow B 35 4 (.slice (some ⟨w2.heap.size, 0, none⟩) 1 1) 1 (rowOf zcell [⟨3, s, 0, 0⟩])) := zh (tok_row HS.out.big 3 (s) (0))
 have HA3 := zh (HS.out.alloc (.cells #[.int .u8 3, .string (s), .int .i64 (0), .int .i64 0] 35))
 go_wp2_with fail
 go_ret
 exact rp_of (own_mono HR3.out HA3.out.lowB) (rfl) HA3.out.bel (rfl)
theorem rb26 (N : Nat) (hE : AtR N) (hB : BlockR N) (s : ByteArray) (l : List Tw) (A : Option Addr) (c i : Nat) (r : List Tw) (w : World) (h : Twg w l A i r ⟨26, 0, 0, s⟩ []) :
 Calls prog 100 #[.slice A l.length c, .int .i64 (i : Nat)] w (RP w (bareS ⟨26, 0, 0, s⟩ (shs []))) := by
 have HT := zh h
 obtain ⟨ha1, hi, ha2, b, off, rfl, hbl, hrg⟩ := h.at_
 have HRG : Hid (w.rangeAt b (off + i * 4) [.int .u8 26, .int .i64 0, .int .i64 0, .string (s)]) := zh (hrg w (Below.refl _ _))
 have HKD := zh (fun W hW => h.kids c 0 rfl W hW)
 have HWD := zh (fun s W => rword_v s W)
 obtain ⟨q, hq⟩ := ex l.length
 have HQ := zh hq
 have hq9 : q <= 100000 := by have := h.len; omega
 rw [<- hq] at hi |-
 have a0 : (0 : Int) <= (i : Int) := by omega
 have a1 : (i : Int) < (q : Int) := by omega
 have HB0 := zh (Blk.new w 42 #[.int .u8 0, .int .i64 0, .int .i64 0, .string ⟨#[]⟩])
 have HWB := zh ((Below.refl w.heap.size w).alloc (nlr _) (.cells #[.int .u8 26, .int .i64 0, .int .i64 0, .string (s)] 42))
 have HWA := zh (Blk.new w 42 #[.int .u8 26, .int .i64 0, .int .i64 0, .string (s)])
 rw [<- HQ.out] at HKD
 clear h hrg hE hB hq hbl ha1 ha2
 go_in
 go_upto_region 2 with (first | (refine wpList_load_mid rfl 42 (.tmp 17) rfl b (off + i * 4) rfl [.int .u8 26, .int .i64 0, .int .i64 0, .string (s)] (.struct _) HRG.out underlying42 rfl (by kernel_rfl) ?_) | (refine wpList_store_row rfl 42 (.tmp 5) (.tmp 18) rfl w.heap.size #[.int .u8 26, .int .i64 0, .int .i64 0, .string (s)] rfl rfl 42 #[.int .u8 0, .int .i64 0, .int .i64 0, .string ⟨#[]⟩] HB0.out (by kernel_rfl) rfl (by kernel_rfl) ?_; rw [World.setRow_alloc_new]) | fail)
 clear HB0
 obtain ⟨g, hg⟩ := ex w.heap.size
 rw [<- hg] at HWA |-
 generalize w.alloc _ = wa at *
 have HG := zh hg
 clear hg
 go_wp2_with fail
 refine (HKD.out wa HWB.out).mono ?_
 rintro e w2 ⟨K, cK, rfl, hcK, hK, hKb, hb2⟩
 obtain ⟨B, hBw⟩ := ex w2.heap.size
 have HS : Hid (Bst w w2 B g ⟨26, 0, 0, s⟩ K [] i) := zh (Bst.new (w2' := w2) (HWB.out.trans (hb2.mono HWB.out.size)) ((hb2.block _ HWA.out.lt).trans HWA.out) hK (by rw [HG.out]; exact nlr _) hBw)
 have hg2 : g < w2.heap.size := HS.out.blk.lt
 have c0 : w2.cell? ⟨g, 0, none⟩ = some (.int .u8 26) := HS.out.blk.cell 0
 have c2 : w2.cell? ⟨g, 2, none⟩ = some (.int .i64 (0)) := HS.out.blk.cell 2
 have c3 : w2.cell? ⟨g, 3, none⟩ = some (.string (s)) := HS.out.blk.cell 3
 have HKB := zh (ai hKb hcK)
 clear hK hKb hb2 hcK hBw
 go_wp2_with fail
 refine (rwidth26 _).mono ?_
 rintro e w3 ⟨rfl, hw⟩
 rw [hw]
 clear hw w3
 go_wp2_with fail
 refine (HWD.out _ w2).mono ?_
 rintro e w4 ⟨rfl, hb4⟩
 have HS4 := zh (HS.out.below hb4)
 clear hb4
 have HR4 : Hid ((w4.alloc (.cells #[.int .u8 1, .string (s), .int .i64 (0), .int .i64 0] 35)).ownsRow B 35 4 (.slice (some ⟨w4.heap.size, 0, none⟩) 1 1) 1 (rowOf zcell [⟨1, s, 0, 0⟩])) := zh (tok_row HS4.out.big 1 (s) (0))
 have HA4 := zh (HS4.out.alloc (.cells #[.int .u8 1, .string (s), .int .i64 (0), .int .i64 0] 35))
 go_wp2_with fail
 go_ret
 exact rp_of (own_mono HR4.out HA4.out.lowB) (rfl) HA4.out.bel (rfl)
theorem rb25 (N : Nat) (hE : AtR N) (hB : BlockR N) (n : Nat) (ks : List Tr) (hn : n = ks.length) (hks : ∀ k ∈ ks, Rt 0 k ∧ k.flat.length <= N) (l : List Tw) (A : Option Addr) (c i : Nat) (r : List Tw) (w : World) (h : Twg w l A i r ⟨25, (n : Nat), 0, bs []⟩ ks) :
 Calls prog 100 #[.slice A l.length c, .int .i64 (i : Nat)] w (RP w (bareS ⟨25, (n : Nat), 0, bs []⟩ (shs ks))) := by
 have HT := zh h
 obtain ⟨ha1, hi, ha2, b, off, rfl, hbl, hrg⟩ := h.at_
 have HRG : Hid (w.rangeAt b (off + i * 4) [.int .u8 25, .int .i64 (n : Nat), .int .i64 0, .string (bs [])]) := zh (hrg w (Below.refl _ _))
 have HKD := zh (fun W hW => h.kids c n hn W hW)
 have HL := zh (fun cK K W hW hK => h.lis hE hks ⟨#[91]⟩ ⟨#[93]⟩ c cK n hn K W hW hK)
 have HLL : Hid ((sgB ⟨#[91]⟩ :: (commas 1 (shs ks) ++ [sgB ⟨#[93]⟩])).length <= 900000) := zh (by rw [lnc, lna, List.length_singleton]; have := h.lisn (N := N) hks; omega)
 have HN := zh hn
 clear hn
 obtain ⟨q, hq⟩ := ex l.length
 have HQ := zh hq
 have hq9 : q <= 100000 := by have := h.len; omega
 rw [<- hq] at hi |-
 have a0 : (0 : Int) <= (i : Int) := by omega
 have a1 : (i : Int) < (q : Int) := by omega
 have HB0 := zh (Blk.new w 42 #[.int .u8 0, .int .i64 0, .int .i64 0, .string ⟨#[]⟩])
 have HWB := zh ((Below.refl w.heap.size w).alloc (nlr _) (.cells #[.int .u8 25, .int .i64 (n : Nat), .int .i64 0, .string (bs [])] 42))
 have HWA := zh (Blk.new w 42 #[.int .u8 25, .int .i64 (n : Nat), .int .i64 0, .string (bs [])])
 rw [<- HQ.out] at HKD HL
 clear h hrg hE hB hq hbl ha1 ha2
 go_in
 go_upto_region 2 with (first | (refine wpList_load_mid rfl 42 (.tmp 17) rfl b (off + i * 4) rfl [.int .u8 25, .int .i64 (n : Nat), .int .i64 0, .string (bs [])] (.struct _) HRG.out underlying42 rfl (by kernel_rfl) ?_) | (refine wpList_store_row rfl 42 (.tmp 5) (.tmp 18) rfl w.heap.size #[.int .u8 25, .int .i64 (n : Nat), .int .i64 0, .string (bs [])] rfl rfl 42 #[.int .u8 0, .int .i64 0, .int .i64 0, .string ⟨#[]⟩] HB0.out (by kernel_rfl) rfl (by kernel_rfl) ?_; rw [World.setRow_alloc_new]) | fail)
 clear HB0
 obtain ⟨g, hg⟩ := ex w.heap.size
 rw [<- hg] at HWA |-
 generalize w.alloc _ = wa at *
 have HG := zh hg
 clear hg
 go_wp2_with fail
 refine (HKD.out wa HWB.out).mono ?_
 rintro e w2 ⟨K, cK, rfl, hcK, hK, hKb, hb2⟩
 obtain ⟨B, hBw⟩ := ex w2.heap.size
 have HS : Hid (Bst w w2 B g ⟨25, (n : Nat), 0, bs []⟩ K ks i) := zh (Bst.new (w2' := w2) (HWB.out.trans (hb2.mono HWB.out.size)) ((hb2.block _ HWA.out.lt).trans HWA.out) hK (by rw [HG.out]; exact nlr _) hBw)
 have hg2 : g < w2.heap.size := HS.out.blk.lt
 have c0 : w2.cell? ⟨g, 0, none⟩ = some (.int .u8 25) := HS.out.blk.cell 0
 have c2 : w2.cell? ⟨g, 2, none⟩ = some (.int .i64 (0)) := HS.out.blk.cell 2
 have c3 : w2.cell? ⟨g, 3, none⟩ = some (.string (bs [])) := HS.out.blk.cell 3
 have HKB := zh (ai hKb hcK)
 clear hK hKb hb2 hcK hBw
 go_wp2_with fail
 refine (rwidth25 _).mono ?_
 rintro e w3 ⟨rfl, hw⟩
 rw [hw]
 clear hw w3
 go_wp2_with fail
 refine (HL.out cK K w2 HS.out.bel HS.out.kid).mono ?_
 rintro e w4 ⟨A4, c4, rfl, ho4, hb4⟩
 obtain ⟨m4, hm4⟩ : ∃ z, z = (sgB ⟨#[91]⟩ :: (commas 1 (shs ks) ++ [sgB ⟨#[93]⟩])).length := ⟨_, rfl⟩
 have hm94 : m4 <= 900000 := by rw [hm4]; exact HLL.out
 rw [<- hm4] at ho4 |-
 have HM4 := zh hm4
 have HS4 := zh (HS.out.below hb4)
 have HR4 := zh (own_mono ho4 HS.out.big)
 clear ho4 hb4 hm4
 go_wp2_with fail
 go_ret
 exact rp_of (own_mono HR4.out HS4.out.lowB) (HM4.out) HS4.out.bel (rfl)
theorem rb53 (N : Nat) (hE : AtR N) (hB : BlockR N) (k : Tr) (hk : Rt 1 k ∧ k.flat.length <= N) (l : List Tw) (A : Option Addr) (c i : Nat) (r : List Tw) (w : World) (h : Twg w l A i r ⟨53, 1, 0, bs []⟩ [k]) :
 Calls prog 100 #[.slice A l.length c, .int .i64 (i : Nat)] w (RP w (bareS ⟨53, 1, 0, bs []⟩ (shs [k]))) := by
 have HT := zh h
 obtain ⟨ha1, hi, ha2, b, off, rfl, hbl, hrg⟩ := h.at_
 have HRG : Hid (w.rangeAt b (off + i * 4) [.int .u8 53, .int .i64 1, .int .i64 0, .string (bs [])]) := zh (hrg w (Below.refl _ _))
 have HKD := zh (fun W hW => h.kids c 1 rfl W hW)
 have HWD := zh (fun s W => rword_v s W)
 obtain ⟨z0, hz0⟩ : ∃ z, z = i + 1 + (flats ([k].take 0)).length := ⟨_, rfl⟩
 have HZ0 := zh hz0
 have hz90 : z0 <= 100000 := by rw [hz0]; exact h.pos (j := 0) (k := k) rfl
 have HC0 := zh (fun W hW => h.blk hB (j := 0) (k := k) rfl hk c  W hW)
 rw [<- hz0] at HC0
 have HF0 : Hid ((sh k 10).length <= 900000) := zh (Nat.le_trans (h.few (k := k) (by simp) ((few_any hk.1).2.1 rfl)) (by omega))
 clear hz0
 obtain ⟨q, hq⟩ := ex l.length
 have HQ := zh hq
 have hq9 : q <= 100000 := by have := h.len; omega
 rw [<- hq] at hi |-
 have a0 : (0 : Int) <= (i : Int) := by omega
 have a1 : (i : Int) < (q : Int) := by omega
 have HB0 := zh (Blk.new w 42 #[.int .u8 0, .int .i64 0, .int .i64 0, .string ⟨#[]⟩])
 have HWB := zh ((Below.refl w.heap.size w).alloc (nlr _) (.cells #[.int .u8 53, .int .i64 1, .int .i64 0, .string (bs [])] 42))
 have HWA := zh (Blk.new w 42 #[.int .u8 53, .int .i64 1, .int .i64 0, .string (bs [])])
 rw [<- HQ.out] at HKD HC0
 clear h hrg hE hB hq hbl ha1 ha2
 go_in
 go_upto_region 2 with (first | (refine wpList_load_mid rfl 42 (.tmp 17) rfl b (off + i * 4) rfl [.int .u8 53, .int .i64 1, .int .i64 0, .string (bs [])] (.struct _) HRG.out underlying42 rfl (by kernel_rfl) ?_) | (refine wpList_store_row rfl 42 (.tmp 5) (.tmp 18) rfl w.heap.size #[.int .u8 53, .int .i64 1, .int .i64 0, .string (bs [])] rfl rfl 42 #[.int .u8 0, .int .i64 0, .int .i64 0, .string ⟨#[]⟩] HB0.out (by kernel_rfl) rfl (by kernel_rfl) ?_; rw [World.setRow_alloc_new]) | fail)
 clear HB0
 obtain ⟨g, hg⟩ := ex w.heap.size
 rw [<- hg] at HWA |-
 generalize w.alloc _ = wa at *
 have HG := zh hg
 clear hg
 go_wp2_with fail
 refine (HKD.out wa HWB.out).mono ?_
 rintro e w2 ⟨K, cK, rfl, hcK, hK, hKb, hb2⟩
 obtain ⟨B, hBw⟩ := ex w2.heap.size
 have HS : Hid (Bst w w2 B g ⟨53, 1, 0, bs []⟩ K [k] i) := zh (Bst.new (w2' := w2) (HWB.out.trans (hb2.mono HWB.out.size)) ((hb2.block _ HWA.out.lt).trans HWA.out) hK (by rw [HG.out]; exact nlr _) hBw)
 have hg2 : g < w2.heap.size := HS.out.blk.lt
 have c0 : w2.cell? ⟨g, 0, none⟩ = some (.int .u8 53) := HS.out.blk.cell 0
 have c2 : w2.cell? ⟨g, 2, none⟩ = some (.int .i64 (0)) := HS.out.blk.cell 2
 have c3 : w2.cell? ⟨g, 3, none⟩ = some (.string (bs [])) := HS.out.blk.cell 3
 have HKB := zh (ai hKb hcK)
 clear hK hKb hb2 hcK hBw
 obtain ⟨kb, ko, rfl⟩ := HS.out.place (by simp)
 go_wp2_with fail
 refine (rwidth53 _).mono ?_
 rintro e w3 ⟨rfl, hw⟩
 rw [hw]
 clear hw w3
 go_wp2_with fail
 refine (HWD.out _ w2).mono ?_
 rintro e w4 ⟨rfl, hb4⟩
 have HS4 := zh (HS.out.below hb4)
 clear hb4
 have HR4 : Hid ((w4.alloc (.cells #[.int .u8 1, .string (⟨#[102, 111, 114, 107]⟩), .int .i64 (0), .int .i64 0] 35)).ownsRow B 35 4 (.slice (some ⟨w4.heap.size, 0, none⟩) 1 1) 1 (rowOf zcell [⟨1, ⟨#[102, 111, 114, 107]⟩, 0, 0⟩])) := zh (tok_row HS4.out.big 1 (⟨#[102, 111, 114, 107]⟩) (0))
 have HA4 := zh (HS4.out.alloc (.cells #[.int .u8 1, .string (⟨#[102, 111, 114, 107]⟩), .int .i64 (0), .int .i64 0] 35))
 have kk40 : (w4.alloc (.cells #[.int .u8 1, .string (⟨#[102, 111, 114, 107]⟩), .int .i64 (0), .int .i64 0] 35)).cell? ⟨kb, ko, none⟩ = some (.int .i64 (z0 : Nat)) := HA4.out.kcell (j := 0) rfl HZ0.out
 go_upto_region 19 with fail
 generalize w4.alloc _ = wa4 at *
 go_wp2_with fail
 refine (HC0.out wa4 HA4.out.bel).mono ?_
 rintro e w5 ⟨A5, c5, rfl, ho5, hb5⟩
 obtain ⟨m5, hm5⟩ : ∃ z, z = (sh k 10).length := ⟨_, rfl⟩
 have hm95 : m5 <= 900000 := by rw [hm5]; exact HF0.out
 rw [<- hm5] at ho5 |-
 have HM5 := zh hm5
 have HS5 := zh (HA4.out.below hb5)
 have HR5 := zh (own_below HR4.out hb5)
 have HX5 := zh (rdz_ow ho5 HM5.out)
 clear ho5 hb5 hm5
 go_wp2_with (at_builtin; refine wpList_app_z rfl (.tmp 92) (.tmp 97) rfl B (1) 1 m5 c5 (some ⟨w4.heap.size, 0, none⟩) A5 ([⟨1, ⟨#[102, 111, 114, 107]⟩, 0, 0⟩]) (sh k 10) rfl HR5.out rfl HM5.out HX5.out (by omega) HS5.out.big ?_; intro A6 c6 w6 ho6 hg6; have HR6 := zh ho6; have HS6 := zh (HS5.out.grown HR5.out hg6); clear ho6 hg6)
 go_ret
 exact rp_of (own_mono HR6.out HS6.out.lowB) (by rw [lna, <- HM5.out]; rfl) HS6.out.bel (rfl)
theorem rb43 (N : Nat) (hE : AtR N) (hB : BlockR N) (k : Tr) (hk : Rt 0 k ∧ k.flat.length <= N) (l : List Tw) (A : Option Addr) (c i : Nat) (r : List Tw) (w : World) (h : Twg w l A i r ⟨43, 1, 0, bs []⟩ [k]) :
 Calls prog 100 #[.slice A l.length c, .int .i64 (i : Nat)] w (RP w (bareS ⟨43, 1, 0, bs []⟩ (shs [k]))) := by
 have HT := zh h
 obtain ⟨ha1, hi, ha2, b, off, rfl, hbl, hrg⟩ := h.at_
 have HRG : Hid (w.rangeAt b (off + i * 4) [.int .u8 43, .int .i64 1, .int .i64 0, .string (bs [])]) := zh (hrg w (Below.refl _ _))
 have HKD := zh (fun W hW => h.kids c 1 rfl W hW)
 have HM := zh mark43
 obtain ⟨z0, hz0⟩ : ∃ z, z = i + 1 + (flats ([k].take 0)).length := ⟨_, rfl⟩
 have HZ0 := zh hz0
 have hz90 : z0 <= 100000 := by rw [hz0]; exact h.pos (j := 0) (k := k) rfl
 have HC0 := zh (fun W hW => h.kid hE (j := 0) (k := k) rfl hk c 3 (by omega) W hW)
 rw [<- hz0] at HC0
 have HF0 : Hid ((sh k 3).length <= 900000) := zh (Nat.le_trans (h.few (k := k) (by simp) ((few_any hk.1).1 rfl 3 (by omega))) (by omega))
 clear hz0
 obtain ⟨q, hq⟩ := ex l.length
 have HQ := zh hq
 have hq9 : q <= 100000 := by have := h.len; omega
 rw [<- hq] at hi |-
 have a0 : (0 : Int) <= (i : Int) := by omega
 have a1 : (i : Int) < (q : Int) := by omega
 have HB0 := zh (Blk.new w 42 #[.int .u8 0, .int .i64 0, .int .i64 0, .string ⟨#[]⟩])
 have HWB := zh ((Below.refl w.heap.size w).alloc (nlr _) (.cells #[.int .u8 43, .int .i64 1, .int .i64 0, .string (bs [])] 42))
 have HWA := zh (Blk.new w 42 #[.int .u8 43, .int .i64 1, .int .i64 0, .string (bs [])])
 rw [<- HQ.out] at HKD HC0
 clear h hrg hE hB hq hbl ha1 ha2
 go_in
 go_upto_region 2 with (first | (refine wpList_load_mid rfl 42 (.tmp 17) rfl b (off + i * 4) rfl [.int .u8 43, .int .i64 1, .int .i64 0, .string (bs [])] (.struct _) HRG.out underlying42 rfl (by kernel_rfl) ?_) | (refine wpList_store_row rfl 42 (.tmp 5) (.tmp 18) rfl w.heap.size #[.int .u8 43, .int .i64 1, .int .i64 0, .string (bs [])] rfl rfl 42 #[.int .u8 0, .int .i64 0, .int .i64 0, .string ⟨#[]⟩] HB0.out (by kernel_rfl) rfl (by kernel_rfl) ?_; rw [World.setRow_alloc_new]) | fail)
 clear HB0
 obtain ⟨g, hg⟩ := ex w.heap.size
 rw [<- hg] at HWA |-
 generalize w.alloc _ = wa at *
 have HG := zh hg
 clear hg
 go_wp2_with fail
 refine (HKD.out wa HWB.out).mono ?_
 rintro e w2 ⟨K, cK, rfl, hcK, hK, hKb, hb2⟩
 obtain ⟨B, hBw⟩ := ex w2.heap.size
 have HS : Hid (Bst w w2 B g ⟨43, 1, 0, bs []⟩ K [k] i) := zh (Bst.new (w2' := w2) (HWB.out.trans (hb2.mono HWB.out.size)) ((hb2.block _ HWA.out.lt).trans HWA.out) hK (by rw [HG.out]; exact nlr _) hBw)
 have hg2 : g < w2.heap.size := HS.out.blk.lt
 have c0 : w2.cell? ⟨g, 0, none⟩ = some (.int .u8 43) := HS.out.blk.cell 0
 have c2 : w2.cell? ⟨g, 2, none⟩ = some (.int .i64 (0)) := HS.out.blk.cell 2
 have c3 : w2.cell? ⟨g, 3, none⟩ = some (.string (bs [])) := HS.out.blk.cell 3
 have HKB := zh (ai hKb hcK)
 clear hK hKb hb2 hcK hBw
 obtain ⟨kb, ko, rfl⟩ := HS.out.place (by simp)
 go_wp2_with fail
 refine (rwidth43 _).mono ?_
 rintro e w3 ⟨rfl, hw⟩
 rw [hw]
 clear hw w3
 go_wp2_with fail
 refine (HM.out w2).mono ?_
 rintro e w4 ⟨rfl, hb4⟩
 have HS4 := zh (HS.out.below hb4)
 clear hb4
 have HR4 : Hid ((w4.alloc (.cells #[.int .u8 1, .string (⟨#[110, 111, 116]⟩), .int .i64 (0), .int .i64 0] 35)).ownsRow B 35 4 (.slice (some ⟨w4.heap.size, 0, none⟩) 1 1) 1 (rowOf zcell [⟨1, ⟨#[110, 111, 116]⟩, 0, 0⟩])) := zh (tok_row HS4.out.big 1 (⟨#[110, 111, 116]⟩) (0))
 have HA4 := zh (HS4.out.alloc (.cells #[.int .u8 1, .string (⟨#[110, 111, 116]⟩), .int .i64 (0), .int .i64 0] 35))
 have kk40 : (w4.alloc (.cells #[.int .u8 1, .string (⟨#[110, 111, 116]⟩), .int .i64 (0), .int .i64 0] 35)).cell? ⟨kb, ko, none⟩ = some (.int .i64 (z0 : Nat)) := HA4.out.kcell (j := 0) rfl HZ0.out
 go_upto_region 30 with fail
 generalize w4.alloc _ = wa4 at *
 go_wp2_with fail
 refine (HC0.out wa4 HA4.out.bel).mono ?_
 rintro e w5 ⟨A5, c5, rfl, ho5, hb5⟩
 obtain ⟨m5, hm5⟩ : ∃ z, z = (sh k 3).length := ⟨_, rfl⟩
 have hm95 : m5 <= 900000 := by rw [hm5]; exact HF0.out
 rw [<- hm5] at ho5 |-
 have HM5 := zh hm5
 have HS5 := zh (HA4.out.below hb5)
 have HR5 := zh (own_below HR4.out hb5)
 have HX5 := zh (rdz_ow ho5 HM5.out)
 clear ho5 hb5 hm5
 go_wp2_with (at_builtin; refine wpList_app_z rfl (.tmp 145) (.tmp 151) rfl B (1) 1 m5 c5 (some ⟨w4.heap.size, 0, none⟩) A5 ([⟨1, ⟨#[110, 111, 116]⟩, 0, 0⟩]) (sh k 3) rfl HR5.out rfl HM5.out HX5.out (by omega) HS5.out.big ?_; intro A6 c6 w6 ho6 hg6; have HR6 := zh ho6; have HS6 := zh (HS5.out.grown HR5.out hg6); clear ho6 hg6)
 go_ret
 exact rp_of (own_mono HR6.out HS6.out.lowB) (by rw [lna, <- HM5.out]; rfl) HS6.out.bel (rfl)
theorem rb44 (N : Nat) (hE : AtR N) (hB : BlockR N) (k : Tr) (hk : Rt 0 k ∧ k.flat.length <= N) (l : List Tw) (A : Option Addr) (c i : Nat) (r : List Tw) (w : World) (h : Twg w l A i r ⟨44, 1, 0, bs []⟩ [k]) :
 Calls prog 100 #[.slice A l.length c, .int .i64 (i : Nat)] w (RP w (bareS ⟨44, 1, 0, bs []⟩ (shs [k]))) := by
 have HT := zh h
 obtain ⟨ha1, hi, ha2, b, off, rfl, hbl, hrg⟩ := h.at_
 have HRG : Hid (w.rangeAt b (off + i * 4) [.int .u8 44, .int .i64 1, .int .i64 0, .string (bs [])]) := zh (hrg w (Below.refl _ _))
 have HKD := zh (fun W hW => h.kids c 1 rfl W hW)
 have HM := zh mark44
 obtain ⟨z0, hz0⟩ : ∃ z, z = i + 1 + (flats ([k].take 0)).length := ⟨_, rfl⟩
 have HZ0 := zh hz0
 have hz90 : z0 <= 100000 := by rw [hz0]; exact h.pos (j := 0) (k := k) rfl
 have HC0 := zh (fun W hW => h.kid hE (j := 0) (k := k) rfl hk c 7 (by omega) W hW)
 rw [<- hz0] at HC0
 have HF0 : Hid ((sh k 7).length <= 900000) := zh (Nat.le_trans (h.few (k := k) (by simp) ((few_any hk.1).1 rfl 7 (by omega))) (by omega))
 clear hz0
 obtain ⟨q, hq⟩ := ex l.length
 have HQ := zh hq
 have hq9 : q <= 100000 := by have := h.len; omega
 rw [<- hq] at hi |-
 have a0 : (0 : Int) <= (i : Int) := by omega
 have a1 : (i : Int) < (q : Int) := by omega
 have HB0 := zh (Blk.new w 42 #[.int .u8 0, .int .i64 0, .int .i64 0, .string ⟨#[]⟩])
 have HWB := zh ((Below.refl w.heap.size w).alloc (nlr _) (.cells #[.int .u8 44, .int .i64 1, .int .i64 0, .string (bs [])] 42))
 have HWA := zh (Blk.new w 42 #[.int .u8 44, .int .i64 1, .int .i64 0, .string (bs [])])
 rw [<- HQ.out] at HKD HC0
 clear h hrg hE hB hq hbl ha1 ha2
 go_in
 go_upto_region 2 with (first | (refine wpList_load_mid rfl 42 (.tmp 17) rfl b (off + i * 4) rfl [.int .u8 44, .int .i64 1, .int .i64 0, .string (bs [])] (.struct _) HRG.out underlying42 rfl (by kernel_rfl) ?_) | (refine wpList_store_row rfl 42 (.tmp 5) (.tmp 18) rfl w.heap.size #[.int .u8 44, .int .i64 1, .int .i64 0, .string (bs [])] rfl rfl 42 #[.int .u8 0, .int .i64 0, .int .i64 0, .string ⟨#[]⟩] HB0.out (by kernel_rfl) rfl (by kernel_rfl) ?_; rw [World.setRow_alloc_new]) | fail)
 clear HB0
 obtain ⟨g, hg⟩ := ex w.heap.size
 rw [<- hg] at HWA |-
 generalize w.alloc _ = wa at *
 have HG := zh hg
 clear hg
 go_wp2_with fail
 refine (HKD.out wa HWB.out).mono ?_
 rintro e w2 ⟨K, cK, rfl, hcK, hK, hKb, hb2⟩
 obtain ⟨B, hBw⟩ := ex w2.heap.size
 have HS : Hid (Bst w w2 B g ⟨44, 1, 0, bs []⟩ K [k] i) := zh (Bst.new (w2' := w2) (HWB.out.trans (hb2.mono HWB.out.size)) ((hb2.block _ HWA.out.lt).trans HWA.out) hK (by rw [HG.out]; exact nlr _) hBw)
 have hg2 : g < w2.heap.size := HS.out.blk.lt
 have c0 : w2.cell? ⟨g, 0, none⟩ = some (.int .u8 44) := HS.out.blk.cell 0
 have c2 : w2.cell? ⟨g, 2, none⟩ = some (.int .i64 (0)) := HS.out.blk.cell 2
 have c3 : w2.cell? ⟨g, 3, none⟩ = some (.string (bs [])) := HS.out.blk.cell 3
 have HKB := zh (ai hKb hcK)
 clear hK hKb hb2 hcK hBw
 obtain ⟨kb, ko, rfl⟩ := HS.out.place (by simp)
 go_wp2_with fail
 refine (rwidth44 _).mono ?_
 rintro e w3 ⟨rfl, hw⟩
 rw [hw]
 clear hw w3
 go_wp2_with fail
 refine (HM.out w2).mono ?_
 rintro e w4 ⟨rfl, hb4⟩
 have HS4 := zh (HS.out.below hb4)
 clear hb4
 have HR4 : Hid ((w4.alloc (.cells #[.int .u8 4, .string (⟨#[45]⟩), .int .i64 (0), .int .i64 0] 35)).ownsRow B 35 4 (.slice (some ⟨w4.heap.size, 0, none⟩) 1 1) 1 (rowOf zcell [⟨4, ⟨#[45]⟩, 0, 0⟩])) := zh (tok_row HS4.out.big 4 (⟨#[45]⟩) (0))
 have HA4 := zh (HS4.out.alloc (.cells #[.int .u8 4, .string (⟨#[45]⟩), .int .i64 (0), .int .i64 0] 35))
 have kk40 : (w4.alloc (.cells #[.int .u8 4, .string (⟨#[45]⟩), .int .i64 (0), .int .i64 0] 35)).cell? ⟨kb, ko, none⟩ = some (.int .i64 (z0 : Nat)) := HA4.out.kcell (j := 0) rfl HZ0.out
 go_upto_region 30 with fail
 generalize w4.alloc _ = wa4 at *
 go_wp2_with fail
 refine (HC0.out wa4 HA4.out.bel).mono ?_
 rintro e w5 ⟨A5, c5, rfl, ho5, hb5⟩
 obtain ⟨m5, hm5⟩ : ∃ z, z = (sh k 7).length := ⟨_, rfl⟩
 have hm95 : m5 <= 900000 := by rw [hm5]; exact HF0.out
 rw [<- hm5] at ho5 |-
 have HM5 := zh hm5
 have HS5 := zh (HA4.out.below hb5)
 have HR5 := zh (own_below HR4.out hb5)
 have HX5 := zh (rdz_ow ho5 HM5.out)
 clear ho5 hb5 hm5
 go_wp2_with (at_builtin; refine wpList_app_z rfl (.tmp 145) (.tmp 151) rfl B (1) 1 m5 c5 (some ⟨w4.heap.size, 0, none⟩) A5 ([⟨4, ⟨#[45]⟩, 0, 0⟩]) (sh k 7) rfl HR5.out rfl HM5.out HX5.out (by omega) HS5.out.big ?_; intro A6 c6 w6 ho6 hg6; have HR6 := zh ho6; have HS6 := zh (HS5.out.grown HR5.out hg6); clear ho6 hg6)
 go_ret
 exact rp_of (own_mono HR6.out HS6.out.lowB) (by rw [lna, <- HM5.out]; rfl) HS6.out.bel (rfl)
theorem rb54 (N : Nat) (hE : AtR N) (hB : BlockR N) (k : Tr) (hk : Rt 0 k ∧ k.flat.length <= N) (l : List Tw) (A : Option Addr) (c i : Nat) (r : List Tw) (w : World) (h : Twg w l A i r ⟨54, 1, 0, bs []⟩ [k]) :
 Calls prog 100 #[.slice A l.length c, .int .i64 (i : Nat)] w (RP w (bareS ⟨54, 1, 0, bs []⟩ (shs [k]))) := by
 have HT := zh h
 obtain ⟨ha1, hi, ha2, b, off, rfl, hbl, hrg⟩ := h.at_
 have HRG : Hid (w.rangeAt b (off + i * 4) [.int .u8 54, .int .i64 1, .int .i64 0, .string (bs [])]) := zh (hrg w (Below.refl _ _))
 have HKD := zh (fun W hW => h.kids c 1 rfl W hW)
 have HM := zh mark54
 obtain ⟨z0, hz0⟩ : ∃ z, z = i + 1 + (flats ([k].take 0)).length := ⟨_, rfl⟩
 have HZ0 := zh hz0
 have hz90 : z0 <= 100000 := by rw [hz0]; exact h.pos (j := 0) (k := k) rfl
 have HC0 := zh (fun W hW => h.kid hE (j := 0) (k := k) rfl hk c 7 (by omega) W hW)
 rw [<- hz0] at HC0
 have HF0 : Hid ((sh k 7).length <= 900000) := zh (Nat.le_trans (h.few (k := k) (by simp) ((few_any hk.1).1 rfl 7 (by omega))) (by omega))
 clear hz0
 obtain ⟨q, hq⟩ := ex l.length
 have HQ := zh hq
 have hq9 : q <= 100000 := by have := h.len; omega
 rw [<- hq] at hi |-
 have a0 : (0 : Int) <= (i : Int) := by omega
 have a1 : (i : Int) < (q : Int) := by omega
 have HB0 := zh (Blk.new w 42 #[.int .u8 0, .int .i64 0, .int .i64 0, .string ⟨#[]⟩])
 have HWB := zh ((Below.refl w.heap.size w).alloc (nlr _) (.cells #[.int .u8 54, .int .i64 1, .int .i64 0, .string (bs [])] 42))
 have HWA := zh (Blk.new w 42 #[.int .u8 54, .int .i64 1, .int .i64 0, .string (bs [])])
 rw [<- HQ.out] at HKD HC0
 clear h hrg hE hB hq hbl ha1 ha2
 go_in
 go_upto_region 2 with (first | (refine wpList_load_mid rfl 42 (.tmp 17) rfl b (off + i * 4) rfl [.int .u8 54, .int .i64 1, .int .i64 0, .string (bs [])] (.struct _) HRG.out underlying42 rfl (by kernel_rfl) ?_) | (refine wpList_store_row rfl 42 (.tmp 5) (.tmp 18) rfl w.heap.size #[.int .u8 54, .int .i64 1, .int .i64 0, .string (bs [])] rfl rfl 42 #[.int .u8 0, .int .i64 0, .int .i64 0, .string ⟨#[]⟩] HB0.out (by kernel_rfl) rfl (by kernel_rfl) ?_; rw [World.setRow_alloc_new]) | fail)
 clear HB0
 obtain ⟨g, hg⟩ := ex w.heap.size
 rw [<- hg] at HWA |-
 generalize w.alloc _ = wa at *
 have HG := zh hg
 clear hg
 go_wp2_with fail
 refine (HKD.out wa HWB.out).mono ?_
 rintro e w2 ⟨K, cK, rfl, hcK, hK, hKb, hb2⟩
 obtain ⟨B, hBw⟩ := ex w2.heap.size
 have HS : Hid (Bst w w2 B g ⟨54, 1, 0, bs []⟩ K [k] i) := zh (Bst.new (w2' := w2) (HWB.out.trans (hb2.mono HWB.out.size)) ((hb2.block _ HWA.out.lt).trans HWA.out) hK (by rw [HG.out]; exact nlr _) hBw)
 have hg2 : g < w2.heap.size := HS.out.blk.lt
 have c0 : w2.cell? ⟨g, 0, none⟩ = some (.int .u8 54) := HS.out.blk.cell 0
 have c2 : w2.cell? ⟨g, 2, none⟩ = some (.int .i64 (0)) := HS.out.blk.cell 2
 have c3 : w2.cell? ⟨g, 3, none⟩ = some (.string (bs [])) := HS.out.blk.cell 3
 have HKB := zh (ai hKb hcK)
 clear hK hKb hb2 hcK hBw
 obtain ⟨kb, ko, rfl⟩ := HS.out.place (by simp)
 go_wp2_with fail
 refine (rwidth54 _).mono ?_
 rintro e w3 ⟨rfl, hw⟩
 rw [hw]
 clear hw w3
 go_wp2_with fail
 refine (HM.out w2).mono ?_
 rintro e w4 ⟨rfl, hb4⟩
 have HS4 := zh (HS.out.below hb4)
 clear hb4
 have HR4 : Hid ((w4.alloc (.cells #[.int .u8 1, .string (⟨#[97, 119, 97, 105, 116]⟩), .int .i64 (0), .int .i64 0] 35)).ownsRow B 35 4 (.slice (some ⟨w4.heap.size, 0, none⟩) 1 1) 1 (rowOf zcell [⟨1, ⟨#[97, 119, 97, 105, 116]⟩, 0, 0⟩])) := zh (tok_row HS4.out.big 1 (⟨#[97, 119, 97, 105, 116]⟩) (0))
 have HA4 := zh (HS4.out.alloc (.cells #[.int .u8 1, .string (⟨#[97, 119, 97, 105, 116]⟩), .int .i64 (0), .int .i64 0] 35))
 have kk40 : (w4.alloc (.cells #[.int .u8 1, .string (⟨#[97, 119, 97, 105, 116]⟩), .int .i64 (0), .int .i64 0] 35)).cell? ⟨kb, ko, none⟩ = some (.int .i64 (z0 : Nat)) := HA4.out.kcell (j := 0) rfl HZ0.out
 go_upto_region 30 with fail
 generalize w4.alloc _ = wa4 at *
 go_wp2_with fail
 refine (HC0.out wa4 HA4.out.bel).mono ?_
 rintro e w5 ⟨A5, c5, rfl, ho5, hb5⟩
 obtain ⟨m5, hm5⟩ : ∃ z, z = (sh k 7).length := ⟨_, rfl⟩
 have hm95 : m5 <= 900000 := by rw [hm5]; exact HF0.out
 rw [<- hm5] at ho5 |-
 have HM5 := zh hm5
 have HS5 := zh (HA4.out.below hb5)
 have HR5 := zh (own_below HR4.out hb5)
 have HX5 := zh (rdz_ow ho5 HM5.out)
 clear ho5 hb5 hm5
 go_wp2_with (at_builtin; refine wpList_app_z rfl (.tmp 145) (.tmp 151) rfl B (1) 1 m5 c5 (some ⟨w4.heap.size, 0, none⟩) A5 ([⟨1, ⟨#[97, 119, 97, 105, 116]⟩, 0, 0⟩]) (sh k 7) rfl HR5.out rfl HM5.out HX5.out (by omega) HS5.out.big ?_; intro A6 c6 w6 ho6 hg6; have HR6 := zh ho6; have HS6 := zh (HS5.out.grown HR5.out hg6); clear ho6 hg6)
 go_ret
 exact rp_of (own_mono HR6.out HS6.out.lowB) (by rw [lna, <- HM5.out]; rfl) HS6.out.bel (rfl)
theorem rb55 (N : Nat) (hE : AtR N) (hB : BlockR N) (k : Tr) (hk : Rt 0 k ∧ k.flat.length <= N) (l : List Tw) (A : Option Addr) (c i : Nat) (r : List Tw) (w : World) (h : Twg w l A i r ⟨55, 1, 0, bs []⟩ [k]) :
 Calls prog 100 #[.slice A l.length c, .int .i64 (i : Nat)] w (RP w (bareS ⟨55, 1, 0, bs []⟩ (shs [k]))) := by
 have HT := zh h
 obtain ⟨ha1, hi, ha2, b, off, rfl, hbl, hrg⟩ := h.at_
 have HRG : Hid (w.rangeAt b (off + i * 4) [.int .u8 55, .int .i64 1, .int .i64 0, .string (bs [])]) := zh (hrg w (Below.refl _ _))
 have HKD := zh (fun W hW => h.kids c 1 rfl W hW)
 have HM := zh mark55
 obtain ⟨z0, hz0⟩ : ∃ z, z = i + 1 + (flats ([k].take 0)).length := ⟨_, rfl⟩
 have HZ0 := zh hz0
 have hz90 : z0 <= 100000 := by rw [hz0]; exact h.pos (j := 0) (k := k) rfl
 have HC0 := zh (fun W hW => h.kid hE (j := 0) (k := k) rfl hk c 7 (by omega) W hW)
 rw [<- hz0] at HC0
 have HF0 : Hid ((sh k 7).length <= 900000) := zh (Nat.le_trans (h.few (k := k) (by simp) ((few_any hk.1).1 rfl 7 (by omega))) (by omega))
 clear hz0
 obtain ⟨q, hq⟩ := ex l.length
 have HQ := zh hq
 have hq9 : q <= 100000 := by have := h.len; omega
 rw [<- hq] at hi |-
 have a0 : (0 : Int) <= (i : Int) := by omega
 have a1 : (i : Int) < (q : Int) := by omega
 have HB0 := zh (Blk.new w 42 #[.int .u8 0, .int .i64 0, .int .i64 0, .string ⟨#[]⟩])
 have HWB := zh ((Below.refl w.heap.size w).alloc (nlr _) (.cells #[.int .u8 55, .int .i64 1, .int .i64 0, .string (bs [])] 42))
 have HWA := zh (Blk.new w 42 #[.int .u8 55, .int .i64 1, .int .i64 0, .string (bs [])])
 rw [<- HQ.out] at HKD HC0
 clear h hrg hE hB hq hbl ha1 ha2
 go_in
 go_upto_region 2 with (first | (refine wpList_load_mid rfl 42 (.tmp 17) rfl b (off + i * 4) rfl [.int .u8 55, .int .i64 1, .int .i64 0, .string (bs [])] (.struct _) HRG.out underlying42 rfl (by kernel_rfl) ?_) | (refine wpList_store_row rfl 42 (.tmp 5) (.tmp 18) rfl w.heap.size #[.int .u8 55, .int .i64 1, .int .i64 0, .string (bs [])] rfl rfl 42 #[.int .u8 0, .int .i64 0, .int .i64 0, .string ⟨#[]⟩] HB0.out (by kernel_rfl) rfl (by kernel_rfl) ?_; rw [World.setRow_alloc_new]) | fail)
 clear HB0
 obtain ⟨g, hg⟩ := ex w.heap.size
 rw [<- hg] at HWA |-
 generalize w.alloc _ = wa at *
 have HG := zh hg
 clear hg
 go_wp2_with fail
 refine (HKD.out wa HWB.out).mono ?_
 rintro e w2 ⟨K, cK, rfl, hcK, hK, hKb, hb2⟩
 obtain ⟨B, hBw⟩ := ex w2.heap.size
 have HS : Hid (Bst w w2 B g ⟨55, 1, 0, bs []⟩ K [k] i) := zh (Bst.new (w2' := w2) (HWB.out.trans (hb2.mono HWB.out.size)) ((hb2.block _ HWA.out.lt).trans HWA.out) hK (by rw [HG.out]; exact nlr _) hBw)
 have hg2 : g < w2.heap.size := HS.out.blk.lt
 have c0 : w2.cell? ⟨g, 0, none⟩ = some (.int .u8 55) := HS.out.blk.cell 0
 have c2 : w2.cell? ⟨g, 2, none⟩ = some (.int .i64 (0)) := HS.out.blk.cell 2
 have c3 : w2.cell? ⟨g, 3, none⟩ = some (.string (bs [])) := HS.out.blk.cell 3
 have HKB := zh (ai hKb hcK)
 clear hK hKb hb2 hcK hBw
 obtain ⟨kb, ko, rfl⟩ := HS.out.place (by simp)
 go_wp2_with fail
 refine (rwidth55 _).mono ?_
 rintro e w3 ⟨rfl, hw⟩
 rw [hw]
 clear hw w3
 go_wp2_with fail
 refine (HM.out w2).mono ?_
 rintro e w4 ⟨rfl, hb4⟩
 have HS4 := zh (HS.out.below hb4)
 clear hb4
 have HR4 : Hid ((w4.alloc (.cells #[.int .u8 1, .string (⟨#[115, 101, 116, 116, 108, 101]⟩), .int .i64 (0), .int .i64 0] 35)).ownsRow B 35 4 (.slice (some ⟨w4.heap.size, 0, none⟩) 1 1) 1 (rowOf zcell [⟨1, ⟨#[115, 101, 116, 116, 108, 101]⟩, 0, 0⟩])) := zh (tok_row HS4.out.big 1 (⟨#[115, 101, 116, 116, 108, 101]⟩) (0))
 have HA4 := zh (HS4.out.alloc (.cells #[.int .u8 1, .string (⟨#[115, 101, 116, 116, 108, 101]⟩), .int .i64 (0), .int .i64 0] 35))
 have kk40 : (w4.alloc (.cells #[.int .u8 1, .string (⟨#[115, 101, 116, 116, 108, 101]⟩), .int .i64 (0), .int .i64 0] 35)).cell? ⟨kb, ko, none⟩ = some (.int .i64 (z0 : Nat)) := HA4.out.kcell (j := 0) rfl HZ0.out
 go_upto_region 30 with fail
 generalize w4.alloc _ = wa4 at *
 go_wp2_with fail
 refine (HC0.out wa4 HA4.out.bel).mono ?_
 rintro e w5 ⟨A5, c5, rfl, ho5, hb5⟩
 obtain ⟨m5, hm5⟩ : ∃ z, z = (sh k 7).length := ⟨_, rfl⟩
 have hm95 : m5 <= 900000 := by rw [hm5]; exact HF0.out
 rw [<- hm5] at ho5 |-
 have HM5 := zh hm5
 have HS5 := zh (HA4.out.below hb5)
 have HR5 := zh (own_below HR4.out hb5)
 have HX5 := zh (rdz_ow ho5 HM5.out)
 clear ho5 hb5 hm5
 go_wp2_with (at_builtin; refine wpList_app_z rfl (.tmp 145) (.tmp 151) rfl B (1) 1 m5 c5 (some ⟨w4.heap.size, 0, none⟩) A5 ([⟨1, ⟨#[115, 101, 116, 116, 108, 101]⟩, 0, 0⟩]) (sh k 7) rfl HR5.out rfl HM5.out HX5.out (by omega) HS5.out.big ?_; intro A6 c6 w6 ho6 hg6; have HR6 := zh ho6; have HS6 := zh (HS5.out.grown HR5.out hg6); clear ho6 hg6)
 go_ret
 exact rp_of (own_mono HR6.out HS6.out.lowB) (by rw [lna, <- HM5.out]; rfl) HS6.out.bel (rfl)
end Go.Proofs.YtbcadlocldplfaaDoor
