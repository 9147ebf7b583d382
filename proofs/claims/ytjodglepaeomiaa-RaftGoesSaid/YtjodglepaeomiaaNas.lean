/- The net in memory: one server more. No walk. -/
import Derived.Test.YtjodglepaeomiaaNdd
namespace Go.Proofs.Ytjodglepaeomiaa
open Go.RowKit

theorem NetM.addSrv {w w0 w1 : World} {B gN : Nat} {X : Nat → Prop} {ps : List (Nat × Sv)} {way : List Mx} {Z : Seen} {v : Nv} (h : NetM w B gN X ps way Z v) (hb : Below w.heap.size w w0) {g' c2 : Nat} {A2 : Option Addr} {S' : Sv} (hS : SvM w0 g' S' A2 c2) (hnew : ∀ b, SvT g' A2 b → w.heap.size ≤ b)
    {A' : Option Addr} {c' : Nat} (ho : w1.ownsRow 0 22 1 (.slice A' (ps.length + 1) c') (ps.length + 1) (rowOf pcell' (ps ++ [(g', S')])))
    (hg : w0.grownBy w1 (Value.slice v.Al ps.length v.cl).ownBlock) (hn : (Value.slice A' (ps.length + 1) c').ownBlock = (Value.slice v.Al ps.length v.cl).ownBlock ∨ (Value.slice A' (ps.length + 1) c').ownBlock = some w0.heap.size) :
    (w1.cell? ⟨gN, 0, none⟩ = some (.slice v.Al ps.length v.cl) ∧ w1.frozen? ⟨gN, 0, none⟩ = false) ∧ NetM (w1.setCell ⟨gN, 0, none⟩ (.slice A' (ps.length + 1) c')) B gN (fun b => X b ∨ (w0.heap.size ≤ b ∧ b < w1.heap.size)) (ps ++ [(g', S')]) way Z { v with Al := A', cl := c' } ∧ Chg (fun b => B ≤ b) w (w1.setCell ⟨gN, 0, none⟩ (.slice A' (ps.length + 1) c')) := by
  have h0 := h.below hb
  have hpl : (ps ++ [(g', S')]).length = ps.length + 1 := by simp
  have hc : Chg (fun b => (Value.slice v.Al ps.length v.cl).ownBlock = some b) w0 w1 := .of_grown hg (fun r hr => hr)
  have htop : Blk w1 gN 54 (netCells v ps.length way.length Z).toArray := h0.top.chg hc (fun he => by
    obtain ⟨cur, hk⟩ := own_has h0.l he
    exact hk.ne_ h0.top (by decide) rfl)
  have hc2 : Chg (fun b => b = gN) w1 (w1.setCell ⟨gN, 0, none⟩ (.slice A' (ps.length + 1) c')) := Chg.setCell (T := fun b => b = gN) (Chg.refl _ _) (p := ⟨gN, 0, none⟩) rfl _
  have hcX : Chg X w0 (w1.setCell ⟨gN, 0, none⟩ (.slice A' (ps.length + 1) c')) := (hc.mono (fun b hb => h.lX b hb)).trans (hc2.mono (fun b hb => by rw [hb]; exact h.topX))
  have hca : Chg X w (w1.setCell ⟨gN, 0, none⟩ (.slice A' (ps.length + 1) c')) := (Chg.of_below hb).trans hcX
  have key : ∀ {e : TypeId} {size n : Nat} {u : Value} {xs : List Value}, w0.ownsRow 0 e size u n xs → e ≠ 22 → e ≠ 54 → (w1.setCell ⟨gN, 0, none⟩ (.slice A' (ps.length + 1) c')).ownsRow 0 e size u n xs := fun {e size n u xs} ho h1 h2 => by
    have ho1 := own_chg ho hc (fun g hg he => by
      obtain ⟨cur, hk⟩ := own_has h0.l he
      exact own_blk_ne ho hk h1 hg)
    exact own_chg ho1 hc2 (fun g hg hg2 => own_blk_ne ho1 htop h2 (hg.trans (congrArg some hg2)))
  have hwy : RowZ w1 X 34 9 (.slice v.Aw way.length v.cw) way.length (rowOf xcell way) := h0.wy.chg hc (fun b cur hb hk he => by
    obtain ⟨cur2, hk2⟩ := own_has h0.l he
    exact hk.ne_ hk2 (by decide) rfl)
  have hsz := hca.size
  have hs1 := hc.size
  have hs0 := hb.size
  have hBw := h.Bw
  have hlt := hc2.size
  refine ⟨⟨by rw [htop.cell]; exact (h.top.cell 0).symm.trans h.c0, htop.frozen 0⟩, ⟨h.tl, fun b hx => ?_, ?_, .inl h.topX, ?_, fun g hg => ?_, (hwy.chg hc2 (fun b cur hb hk he => hk.ne_ htop (by decide) he)).mono (fun b hb => .inl hb), fun x hx => ⟨key (h0.ent x hx).1 (by decide) (by decide), fun g hg => .inl ((h.ent x hx).2 g hg)⟩,
    key h0.sure (by decide) (by decide), fun g hg => .inl (h.sureX g hg), key h0.ld (by decide) (by decide), fun g hg => .inl (h.ldX g hg), key h0.wh (by decide) (by decide), fun g hg => .inl (h.whX g hg), ?_⟩, hca.mono (fun b hb => (h.Xw b hb).1)⟩
  · rcases hx with hx | hx
    · exact ⟨(h.Xw b hx).1, Nat.lt_of_lt_of_le (h.Xw b hx).2 hsz⟩
    · exact ⟨by omega, Nat.lt_of_lt_of_le hx.2 hlt⟩
  · have h1 := htop.set_ 0 (.slice A' (ps.length + 1) c')
    rw [List.setIfInBounds_toArray] at h1
    rw [hpl]
    exact h1
  · rw [hpl]
    exact own_chg ho hc2 (fun g hg hg2 => own_blk_ne ho htop (by decide) (hg.trans (congrArg some hg2)))
  · rw [hpl] at hg
    rcases hn with hn | hn
    · exact .inl (h.lX g (hn ▸ hg))
    · rw [hn] at hg
      injection hg with hg
      subst hg
      have := (World.ownsRow.lt ho _ hn).2
      exact .inr ⟨Nat.le_refl _, this⟩
  · obtain ⟨T, k1, k2, k3⟩ := h.srv
    refine ⟨fun j b => if j = ps.length then SvT g' A2 b else j < ps.length ∧ T j b, fun j p hp => ?_, fun j k b hjk => ?_, fun j b hb2 => ?_⟩
    · by_cases hj : j = ps.length
      · rw [hj, List.getElem?_append_right (Nat.le_refl _), Nat.sub_self] at hp
        have hp : (g', S') = p := by simpa using hp
        subst hp
        exact ⟨A2, c2, hS.chg hcX (fun b hb2 hx => by have := hnew b hb2; have := (h.Xw b hx).2; omega), fun b hb2 => by dsimp only; rw [if_pos hj]; exact hb2⟩
      · have hjl : j < ps.length := by
          have := (List.getElem?_eq_some_iff.1 hp).1
          rw [hpl] at this
          omega
        rw [List.getElem?_append_left hjl] at hp
        obtain ⟨A3, c3, hm3, ht3⟩ := k1 j p hp
        exact ⟨A3, c3, hm3.chg hca (fun b hb2 hx => (k3 j b (ht3 b hb2)).2 (.inl hx)), fun b hb2 => by dsimp only; rw [if_neg hj]; exact ⟨hjl, ht3 b hb2⟩⟩
    · dsimp only
      by_cases hj : j = ps.length
      · rw [if_pos hj, if_neg (fun e => hjk (hj.trans e.symm))]
        exact fun h2 h3 => by have := hnew b h2; have := (k3 k b h3.2).1; omega
      · rw [if_neg hj]
        by_cases hk : k = ps.length
        · rw [if_pos hk]; exact fun h3 h2 => by have := hnew b h2; have := (k3 j b h3.2).1; omega
        · rw [if_neg hk]; exact fun h2 h3 => k2 j k b hjk h2.2 h3.2
    · dsimp only at hb2
      by_cases hj : j = ps.length
      · rw [if_pos hj] at hb2
        have hl := hS.ltT hb2
        refine ⟨Nat.lt_of_lt_of_le hl hcX.size, fun hx => ?_⟩
        have := hnew b hb2
        rcases hx with (hx | hx) | hx
        · have := (h.Xw b hx).2; omega
        · omega
        · omega
      · rw [if_neg hj] at hb2
        have h3 := k3 j b hb2.2
        refine ⟨Nat.lt_of_lt_of_le h3.1 hsz, fun hx => ?_⟩
        rcases hx with (hx | hx) | hx
        · exact h3.2 (.inl hx)
        · omega
        · exact h3.2 (.inr hx)
/-- Only the first messages stay on their way. -/
theorem NetM.cut {w : World} {B gN : Nat} {X : Nat → Prop} {ps : List (Nat × Sv)} {way : List Mx} {Z : Seen} {v : Nv} (h : NetM w B gN X ps way Z v) {k : Nat} (hk : k ≤ way.length) :
    way.length ≤ v.cw ∧ v.cw ≤ 9223372036854775807 ∧ NetM (w.setCell ⟨gN, 1, none⟩ (.slice v.Aw k v.cw)) B gN X ps (way.take k) Z v ∧ Chg X w (w.setCell ⟨gN, 1, none⟩ (.slice v.Aw k v.cw)) := by
  obtain ⟨hl, A, cap, e, hnc, hcm, hA⟩ := h.wy
  injection e with e1 _ e3
  subst e3
  subst e1
  have hlen : (way.take k).length = k := by rw [List.length_take]; omega
  have key := h.newWay (way' := way.take k) (A' := v.Aw) (c' := v.cw) (Chg.refl _ _) (fun b hb => hb) (fun b hb => .inl hb) ?_ (fun y hy => h.ent y (List.mem_of_mem_take hy))
  · rw [hlen] at key
    exact ⟨hnc, by unfold maxLen at hcm; omega, key.1, key.2⟩
  · refine ⟨rowOf_length xcell_len _, v.Aw, v.cw, rfl, by rw [hlen]; omega, hcm, hA.imp id ?_⟩
    rintro ⟨g, off, cur, hg, hX, hb, hle, htk⟩
    refine ⟨g, off, cur, hg, hX, hb, hle, ?_⟩
    rw [hlen, rowOf_take xcell_len, ← htk, List.take_take]
    congr 1
    have : k * 9 ≤ way.length * 9 := Nat.mul_le_mul_right 9 hk
    omega
end Go.Proofs.Ytjodglepaeomiaa
