/- The net in memory: a server is made anew, a number is written, the first message goes. No walk. -/
import Derived.Test.YtjodglepaeomiaaNow
namespace Go.Proofs.Ytjodglepaeomiaa
open Go.RowKit

section
variable {w w' w1 : World} {B gN : Nat} {X X' : Nat → Prop} {ps : List (Nat × Sv)} {way : List Mx} {Z : Seen} {v : Nv}
theorem own_setcell {w : World} {base e : TypeId} {g n c j : Nat} {xs : List Value} {u : Value} (h : w.ownsRow base e 1 (.slice (some ⟨g, 0, none⟩) n c) n xs) : (w.setCell ⟨g, j, none⟩ u).ownsRow base e 1 (.slice (some ⟨g, 0, none⟩) n c) n (xs.set j u) := by
  refine ⟨by rw [List.length_set]; exact h.1, ?_⟩
  rcases h.2 with ⟨h1, _⟩ | ⟨g', cap, cur, h1, h2, h3, h4, h5, h6, h7⟩
  · cases h1
  · injection h1 with e1 e2 e3
    injection e1 with e1
    injection e1 with e1
    subst e1; subst e3
    have hb : Blk w g e cur := h3
    refine .inr ⟨g, c, cur.setIfInBounds j u, rfl, h2, hb.set_ j u, h4, h5, by rw [Array.size_setIfInBounds]; exact h6, ?_⟩
    rw [Array.toList_setIfInBounds, ← h7, List.take_set]
theorem NetM.setTold (h : NetM w B gN X ps way Z v) {i k : Nat} (hi : i < 7) : NetM (w.setCell ⟨gN, 3 + i, none⟩ (.int .i64 (k : Nat))) B gN X ps way { Z with told := Z.told.set i k } v ∧ Chg X w (w.setCell ⟨gN, 3 + i, none⟩ (.int .i64 (k : Nat))) := by
  have hc : Chg (fun b => b = gN) w (w.setCell ⟨gN, 3 + i, none⟩ (.int .i64 (k : Nat))) := Chg.setCell (T := fun b => b = gN) (Chg.refl _ _) (p := ⟨gN, 3 + i, none⟩) rfl _
  have hcX : Chg X w (w.setCell ⟨gN, 3 + i, none⟩ (.int .i64 (k : Nat))) := hc.mono (fun b hb => by rw [hb]; exact h.topX)
  have key : ∀ {e : TypeId} {size n : Nat} {u : Value} {xs : List Value}, w.ownsRow 0 e size u n xs → e ≠ 54 → (w.setCell ⟨gN, 3 + i, none⟩ (.int .i64 (k : Nat))).ownsRow 0 e size u n xs := fun {e size n u xs} ho h2 =>
    own_chg ho hc (fun g hg hg2 => own_blk_ne ho h.top h2 (hg.trans (congrArg some hg2)))
  refine ⟨⟨by show (Z.told.set i k).length = 7; rw [List.length_set]; exact h.tl, fun b hb => ⟨(h.Xw b hb).1, Nat.lt_of_lt_of_le (h.Xw b hb).2 hc.size⟩, ?_, h.topX, key h.l (by decide), h.lX, h.wy.chg hc (fun b cur hb hk hg => h.top.ne_ hk (by decide) hg.symm), fun x hx => ⟨key (h.ent x hx).1 (by decide), (h.ent x hx).2⟩, key h.sure (by decide), h.sureX, key h.ld (by decide), h.ldX, key h.wh (by decide), h.whX, h.srv.chg (hcX.mono (fun b hb => .inl hb)) (fun b hb => .inl hb)⟩, hcX⟩
  have h1 := h.top.set_ (3 + i) (.int .i64 (k : Nat))
  rw [List.setIfInBounds_toArray] at h1
  have e : (netCells v ps.length way.length Z).set (3 + i) (.int .i64 (k : Nat)) = netCells v ps.length way.length { Z with told := Z.told.set i k } := by
    unfold netCells
    rw [List.set_append_right _ _ (by simp), List.set_append_left _ _ (by simp [h.tl]; omega)]
    simp only [List.length_cons, List.length_nil, Nat.zero_add, Nat.add_sub_cancel_left, List.map_set]
    rfl
  rw [← e]
  exact h1
/-- A server is another, in new blocks. -/
theorem NetM.newSrv (h : NetM w B gN X ps way Z v) (hb : Below w.heap.size w w1) {i g g' gl : Nat} {S S' : Sv} (hi : ps[i]? = some (g, S)) {A' : Option Addr} {c' : Nat} (hS : SvM w1 g' S' A' c') (hnew : ∀ b, SvT g' A' b → w.heap.size ≤ b) (hAl : v.Al = some ⟨gl, 0, none⟩) :
    NetM (w1.setCell ⟨gl, i, none⟩ (.pointer (some ⟨g', 0, none⟩))) B gN X (ps.set i (g', S')) way Z v ∧ Chg (fun b => B ≤ b) w (w1.setCell ⟨gl, i, none⟩ (.pointer (some ⟨g', 0, none⟩))) := by
  have hil := (List.getElem?_eq_some_iff.1 hi).1
  have h1 := h.below hb
  have hglX : X gl := h.lX gl (by rw [hAl]; rfl)
  have hc : Chg (fun b => b = gl) w1 (w1.setCell ⟨gl, i, none⟩ (.pointer (some ⟨g', 0, none⟩))) := Chg.setCell (T := fun b => b = gl) (Chg.refl _ _) (p := ⟨gl, i, none⟩) rfl _
  have hl := h1.l
  rw [hAl] at hl
  have hlb : ∃ cur, Blk w1 gl 22 cur := by
    rcases hl.2 with ⟨h2, _⟩ | ⟨g2, cap, cur, h2, _, h3, _⟩
    · cases h2
    · injection h2 with e1 _ _
      injection e1 with e1
      injection e1 with e1
      subst e1
      exact ⟨cur, h3⟩
  obtain ⟨lcur, hlb⟩ := hlb
  have key : ∀ {e : TypeId} {size n : Nat} {u : Value} {xs : List Value}, w1.ownsRow 0 e size u n xs → e ≠ 22 → (w1.setCell ⟨gl, i, none⟩ (.pointer (some ⟨g', 0, none⟩))).ownsRow 0 e size u n xs := fun {e size n u xs} ho h2 =>
    own_chg ho hc (fun g hg hg2 => own_blk_ne ho hlb h2 (hg.trans (congrArg some hg2)))
  refine ⟨⟨h.tl, fun b hx => ⟨(h1.Xw b hx).1, Nat.lt_of_lt_of_le (h1.Xw b hx).2 hc.size⟩, ?_, h.topX, ?_, ?_, h1.wy.chg hc (fun b cur hb hk hg => hlb.ne_ hk (by decide) hg.symm), fun x hx => ⟨key (h1.ent x hx).1 (by decide), (h1.ent x hx).2⟩, key h1.sure (by decide), h1.sureX, key h1.ld (by decide), h1.ldX, key h1.wh (by decide), h1.whX, ?_⟩, (Chg.of_below hb).trans (hc.mono (fun b hb => by rw [hb]; exact (h.Xw gl hglX).1))⟩
  · rw [List.length_set]
    exact h1.top.chg hc (fun hg => hlb.ne_ h1.top (by decide) hg.symm)
  · rw [List.length_set, hAl]
    have h2 := own_setcell (j := i) (u := .pointer (some ⟨g', 0, none⟩)) hl
    have e : (rowOf pcell' ps).set i (.pointer (some ⟨g', 0, none⟩)) = rowOf pcell' (ps.set i (g', S')) := by
      have : ∀ (l : List (Nat × Sv)), rowOf pcell' l = l.map fun p => .pointer (some ⟨p.1, 0, none⟩) := by
        intro l
        induction l with
        | nil => rfl
        | cons x l ih => rw [rowOf_cons, ih]; rfl
      rw [this, this, List.map_set]
    rw [← e]
    exact h2
  · rw [List.length_set]; exact h.lX
  · obtain ⟨T, k1, k2, k3⟩ := h.srv
    have hcT : ∀ b, b = gl → X b := fun b hb => by rw [hb]; exact hglX
    refine ⟨fun j b => if j = i then SvT g' A' b else T j b, fun j p hp => ?_, fun j k b hjk => ?_, fun j b hb2 => ?_⟩
    · by_cases hji : j = i
      · rw [hji, List.getElem?_set_self hil] at hp
        have hp := Option.some.inj hp
        subst hp
        exact ⟨A', c', hS.chg hc (fun b hb2 he => by have := hnew b hb2; have := (h.Xw gl hglX).2; omega), fun b hb2 => by dsimp only; rw [if_pos hji]; exact hb2⟩
      · rw [List.getElem?_set_ne (fun e => hji e.symm)] at hp
        obtain ⟨A2, c2, hm2, ht2⟩ := k1 j p hp
        exact ⟨A2, c2, (hm2.below hb).chg hc (fun b hb2 he => (k3 j b (ht2 b hb2)).2 (.inl (hcT b he))), fun b hb2 => by dsimp only; rw [if_neg hji]; exact ht2 b hb2⟩
    · dsimp only
      by_cases hj : j = i
      · rw [if_pos hj, if_neg (fun e => hjk (hj.trans e.symm))]
        exact fun h2 h3 => by have := hnew b h2; have := (k3 k b h3).1; omega
      · rw [if_neg hj]
        by_cases hk : k = i
        · rw [if_pos hk]; exact fun h3 h2 => by have := hnew b h2; have := (k3 j b h3).1; omega
        · rw [if_neg hk]; exact k2 j k b hjk
    · dsimp only at hb2
      by_cases hj : j = i
      · rw [if_pos hj] at hb2
        refine ⟨Nat.lt_of_lt_of_le (hS.ltT hb2) hc.size, fun hx => ?_⟩
        have := hnew b hb2
        rcases hx with hx | hx
        · have := (h.Xw b hx).2; omega
        · have := h.Bw; omega
      · rw [if_neg hj] at hb2
        exact ⟨Nat.lt_of_lt_of_le (k3 j b hb2).1 (Nat.le_trans hb.size hc.size), (k3 j b hb2).2⟩
/-- The first message goes. -/
theorem NetM.tail {x : Mx} {rest : List Mx} (h : NetM w B gN X ps (x :: rest) Z v) : ∃ gw off, v.Aw = some ⟨gw, off, none⟩ ∧ 1 + rest.length ≤ v.cw ∧ v.cw ≤ 9223372036854775807 ∧ ∀ A', (A' = if v.cw = 1 then some ⟨gw, off, none⟩ else some ⟨gw, off + 9, none⟩) →
    NetM (w.setCell ⟨gN, 1, none⟩ (.slice A' rest.length (v.cw - 1))) B gN X ps rest Z { v with Aw := A', cw := v.cw - 1 } ∧ Chg X w (w.setCell ⟨gN, 1, none⟩ (.slice A' rest.length (v.cw - 1))) := by
  obtain ⟨hl, A, cap, e, hnc, hcm, hA⟩ := h.wy
  injection e with e1 _ e3
  subst e3
  rw [List.length_cons] at hnc
  rcases hA with ⟨_, h0⟩ | ⟨g, off, cur, hg, hX, hb, hle, htk⟩
  · omega
  · refine ⟨g, off, e1.trans hg, by omega, by unfold maxLen at hcm; omega, fun A' hA' => ?_⟩
    refine h.newWay (way' := rest) (Chg.refl _ _) (fun b hb => hb) (fun b hb => .inl hb) ?_ (fun y hy => h.ent y (List.mem_cons_of_mem _ hy))
    refine ⟨rowOf_length xcell_len rest, A', v.cw - 1, rfl, by omega, by omega, .inr ?_⟩
    rw [List.length_cons] at htk
    by_cases h1 : v.cw = 1
    · have hr : rest = [] := List.eq_nil_of_length_eq_zero (by omega)
      rw [if_pos h1] at hA'
      subst hr
      exact ⟨g, off, cur, hA', hX, hb, by rw [h1] at hle ⊢; omega, by simp [rowOf_nil]⟩
    · rw [if_neg h1] at hA'
      refine ⟨g, off + 9, cur, hA', hX, hb, by have : v.cw * 9 = (v.cw - 1) * 9 + 9 := by omega
                                               omega, ?_⟩
      have h2 := congrArg (List.drop 9) htk
      rw [List.drop_take, List.drop_drop, rowOf_cons, List.drop_left' (xcell_len x)] at h2
      rw [← h2]
      congr 1
      omega
end
end Go.Proofs.Ytjodglepaeomiaa
