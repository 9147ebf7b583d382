/- The net in memory: one more sure entry, leader, owner. No walk. -/
import Derived.Test.YtjodglepaeomiaaNrn
namespace Go.Proofs.Ytjodglepaeomiaa
open Go.RowKit

theorem own_has {w : World} {base e size n g : Nat} {A : Option Addr} {c : Nat} {xs : List Value} (h : w.ownsRow base e size (.slice A n c) n xs) (hg : (Value.slice A n c).ownBlock = some g) : ∃ cur, Blk w g e cur := by
  rcases h.2 with ⟨h1, _⟩ | ⟨g', cap, cur, h1, _, h3, _⟩
  · rw [h1] at hg; simp [Value.ownBlock] at hg
  · rw [h1] at hg
    have : g' = g := by simpa [Value.ownBlock] using hg
    subst this
    exact ⟨cur, h3⟩
section
variable {w w0 w1 : World} {B gN : Nat} {X : Nat → Prop} {ps : List (Nat × Sv)} {way : List Mx} {Z : Seen} {v : Nv}

theorem NetM.newSure (h : NetM w B gN X ps way Z v) (hb : Below w.heap.size w w0) {y : Ent × Int} {A' : Option Addr} {c' : Nat} (ho : w1.ownsRow 0 94 3 (.slice A' (Z.sure.length + 1) c') (Z.sure.length + 1) (rowOf scell (Z.sure ++ [y])))
    (hg : w0.grownBy w1 (Value.slice v.As Z.sure.length v.cs).ownBlock) (hn : (Value.slice A' (Z.sure.length + 1) c').ownBlock = (Value.slice v.As Z.sure.length v.cs).ownBlock ∨ (Value.slice A' (Z.sure.length + 1) c').ownBlock = some w0.heap.size) :
    (w1.cell? ⟨gN, 2, none⟩ = some (.slice v.As Z.sure.length v.cs) ∧ w1.frozen? ⟨gN, 2, none⟩ = false) ∧ NetM (w1.setCell ⟨gN, 2, none⟩ (.slice A' (Z.sure.length + 1) c')) B gN (fun b => X b ∨ (w.heap.size ≤ b ∧ b < w1.heap.size)) ps way { Z with sure := Z.sure ++ [y] } { v with As := A', cs := c' } ∧ Chg X w (w1.setCell ⟨gN, 2, none⟩ (.slice A' (Z.sure.length + 1) c')) := by
  have h0 := h.below hb
  have hc : Chg (fun b => (Value.slice v.As Z.sure.length v.cs).ownBlock = some b) w0 w1 := .of_grown hg (fun r hr => hr)
  have htop : Blk w1 gN 54 (netCells v ps.length way.length Z).toArray := h0.top.chg hc (fun he => by
    obtain ⟨cur, hk⟩ := own_has h0.sure he
    exact hk.ne_ h0.top (by decide) rfl)
  have hc2 : Chg (fun b => b = gN) w1 (w1.setCell ⟨gN, 2, none⟩ (.slice A' (Z.sure.length + 1) c')) := Chg.setCell (T := fun b => b = gN) (Chg.refl _ _) (p := ⟨gN, 2, none⟩) rfl _
  have hca : Chg X w (w1.setCell ⟨gN, 2, none⟩ (.slice A' (Z.sure.length + 1) c')) := ((Chg.of_below hb).trans (hc.mono (fun b hb => h.sureX b hb))).trans (hc2.mono (fun b hb => by rw [hb]; exact h.topX))
  have key : ∀ {e : TypeId} {size n : Nat} {u : Value} {xs : List Value}, w0.ownsRow 0 e size u n xs → e ≠ 94 → e ≠ 54 → (w1.setCell ⟨gN, 2, none⟩ (.slice A' (Z.sure.length + 1) c')).ownsRow 0 e size u n xs := fun {e size n u xs} ho h1 h2 => by
    have ho1 := own_chg ho hc (fun g hg he => by
      obtain ⟨cur, hk⟩ := own_has h0.sure he
      exact own_blk_ne ho hk h1 hg)
    exact own_chg ho1 hc2 (fun g hg hg2 => own_blk_ne ho1 htop h2 (hg.trans (congrArg some hg2)))
  have hwy : RowZ w1 X 34 9 (.slice v.Aw way.length v.cw) way.length (rowOf xcell way) := h0.wy.chg hc (fun b cur hb hk he => by
    obtain ⟨cur2, hk2⟩ := own_has h0.sure he
    exact hk.ne_ hk2 (by decide) rfl)
  have hsz := hca.size
  have hs1 := hc.size
  have hs0 := hb.size
  have hBw := h.Bw
  have hlt := hc2.size
  refine ⟨⟨by rw [htop.cell]; exact (h.top.cell 2).symm.trans h.c2, htop.frozen 2⟩, ⟨h.tl, fun b hx => ?_, ?_, .inl h.topX, key h0.l (by decide) (by decide), fun g hg => .inl (h.lX g hg), (hwy.chg hc2 (fun b cur hb hk he => hk.ne_ htop (by decide) he)).mono (fun b hb => .inl hb), fun x hx => ⟨key (h0.ent x hx).1 (by decide) (by decide), fun g hg => .inl ((h.ent x hx).2 g hg)⟩,
    (own_chg (by rw [List.length_append, List.length_singleton]; exact ho) hc2 (fun g hg hg2 => by
      rw [List.length_append, List.length_singleton] at hg
      exact own_blk_ne ho htop (by decide) (hg.trans (congrArg some hg2)))), (fun g hg => by
      rw [List.length_append, List.length_singleton] at hg
      rcases hn with hn | hn
      · exact .inl (h.sureX g (hn ▸ hg))
      · rw [hn] at hg
        injection hg with hg
        subst hg
        have := (World.ownsRow.lt ho _ hn).2
        exact .inr ⟨hs0, this⟩), key h0.ld (by decide) (by decide), fun g hg => .inl (h.ldX g hg), key h0.wh (by decide) (by decide), fun g hg => .inl (h.whX g hg), ?_⟩, hca⟩
  · rcases hx with hx | hx
    · exact ⟨(h.Xw b hx).1, Nat.lt_of_lt_of_le (h.Xw b hx).2 hsz⟩
    · exact ⟨by omega, Nat.lt_of_lt_of_le hx.2 hlt⟩
  · have h1 := htop.set_ 2 (.slice A' (Z.sure.length + 1) c')
    rw [List.setIfInBounds_toArray] at h1
    have e : (netCells v ps.length way.length Z).set 2 (.slice A' (Z.sure.length + 1) c') = netCells { v with As := A', cs := c' } ps.length way.length { Z with sure := Z.sure ++ [y] } := by
      have hl : (Z.sure ++ [y]).length = Z.sure.length + 1 := by simp
      have ht := h.tl
      unfold netCells
      simp only [hl]
      rfl
    rw [← e]
    exact h1
  · refine (h.srv.chg (hca.mono (fun b hb => .inl hb)) (fun b hb => ?_))
    rcases hb with (hb | hb) | hb
    · exact .inl (.inl hb)
    · exact .inr hb.1
    · exact .inl (.inr hb)

theorem NetM.newLead (h : NetM w B gN X ps way Z v) (hb : Below w.heap.size w w0) {y : Int} {A' : Option Addr} {c' : Nat} (ho : w1.ownsRow 0 2 1 (.slice A' (Z.leads.length + 1) c') (Z.leads.length + 1) (rowOf tcell (Z.leads ++ [y])))
    (hg : w0.grownBy w1 (Value.slice v.Ad Z.leads.length v.cd).ownBlock) (hn : (Value.slice A' (Z.leads.length + 1) c').ownBlock = (Value.slice v.Ad Z.leads.length v.cd).ownBlock ∨ (Value.slice A' (Z.leads.length + 1) c').ownBlock = some w0.heap.size) :
    (w1.cell? ⟨gN, 10, none⟩ = some (.slice v.Ad Z.leads.length v.cd) ∧ w1.frozen? ⟨gN, 10, none⟩ = false) ∧ NetM (w1.setCell ⟨gN, 10, none⟩ (.slice A' (Z.leads.length + 1) c')) B gN (fun b => X b ∨ (w.heap.size ≤ b ∧ b < w1.heap.size)) ps way { Z with leads := Z.leads ++ [y] } { v with Ad := A', cd := c' } ∧ Chg X w (w1.setCell ⟨gN, 10, none⟩ (.slice A' (Z.leads.length + 1) c')) := by
  have h0 := h.below hb
  have hc : Chg (fun b => (Value.slice v.Ad Z.leads.length v.cd).ownBlock = some b) w0 w1 := .of_grown hg (fun r hr => hr)
  have htop : Blk w1 gN 54 (netCells v ps.length way.length Z).toArray := h0.top.chg hc (fun he => by
    obtain ⟨cur, hk⟩ := own_has h0.ld he
    exact hk.ne_ h0.top (by decide) rfl)
  have hc2 : Chg (fun b => b = gN) w1 (w1.setCell ⟨gN, 10, none⟩ (.slice A' (Z.leads.length + 1) c')) := Chg.setCell (T := fun b => b = gN) (Chg.refl _ _) (p := ⟨gN, 10, none⟩) rfl _
  have hca : Chg X w (w1.setCell ⟨gN, 10, none⟩ (.slice A' (Z.leads.length + 1) c')) := ((Chg.of_below hb).trans (hc.mono (fun b hb => h.ldX b hb))).trans (hc2.mono (fun b hb => by rw [hb]; exact h.topX))
  have key : ∀ {e : TypeId} {size n : Nat} {u : Value} {xs : List Value}, w0.ownsRow 0 e size u n xs → e ≠ 2 → e ≠ 54 → (w1.setCell ⟨gN, 10, none⟩ (.slice A' (Z.leads.length + 1) c')).ownsRow 0 e size u n xs := fun {e size n u xs} ho h1 h2 => by
    have ho1 := own_chg ho hc (fun g hg he => by
      obtain ⟨cur, hk⟩ := own_has h0.ld he
      exact own_blk_ne ho hk h1 hg)
    exact own_chg ho1 hc2 (fun g hg hg2 => own_blk_ne ho1 htop h2 (hg.trans (congrArg some hg2)))
  have hwy : RowZ w1 X 34 9 (.slice v.Aw way.length v.cw) way.length (rowOf xcell way) := h0.wy.chg hc (fun b cur hb hk he => by
    obtain ⟨cur2, hk2⟩ := own_has h0.ld he
    exact hk.ne_ hk2 (by decide) rfl)
  have hsz := hca.size
  have hs1 := hc.size
  have hs0 := hb.size
  have hBw := h.Bw
  have hlt := hc2.size
  refine ⟨⟨by rw [htop.cell]; exact (h.top.cell 10).symm.trans h.c10, htop.frozen 10⟩, ⟨h.tl, fun b hx => ?_, ?_, .inl h.topX, key h0.l (by decide) (by decide), fun g hg => .inl (h.lX g hg), (hwy.chg hc2 (fun b cur hb hk he => hk.ne_ htop (by decide) he)).mono (fun b hb => .inl hb), fun x hx => ⟨key (h0.ent x hx).1 (by decide) (by decide), fun g hg => .inl ((h.ent x hx).2 g hg)⟩,
    key h0.sure (by decide) (by decide), fun g hg => .inl (h.sureX g hg), (own_chg (by rw [List.length_append, List.length_singleton]; exact ho) hc2 (fun g hg hg2 => by
      rw [List.length_append, List.length_singleton] at hg
      exact own_blk_ne ho htop (by decide) (hg.trans (congrArg some hg2)))), (fun g hg => by
      rw [List.length_append, List.length_singleton] at hg
      rcases hn with hn | hn
      · exact .inl (h.ldX g (hn ▸ hg))
      · rw [hn] at hg
        injection hg with hg
        subst hg
        have := (World.ownsRow.lt ho _ hn).2
        exact .inr ⟨hs0, this⟩), key h0.wh (by decide) (by decide), fun g hg => .inl (h.whX g hg), ?_⟩, hca⟩
  · rcases hx with hx | hx
    · exact ⟨(h.Xw b hx).1, Nat.lt_of_lt_of_le (h.Xw b hx).2 hsz⟩
    · exact ⟨by omega, Nat.lt_of_lt_of_le hx.2 hlt⟩
  · have h1 := htop.set_ 10 (.slice A' (Z.leads.length + 1) c')
    rw [List.setIfInBounds_toArray] at h1
    have e : (netCells v ps.length way.length Z).set 10 (.slice A' (Z.leads.length + 1) c') = netCells { v with Ad := A', cd := c' } ps.length way.length { Z with leads := Z.leads ++ [y] } := by
      have hl : (Z.leads ++ [y]).length = Z.leads.length + 1 := by simp
      have ht := h.tl
      unfold netCells
      rw [List.set_append_right _ _ (by simp), List.set_append_right _ _ (by simp; omega)]
      simp only [hl, List.length_cons, List.length_nil, Nat.zero_add, List.length_map, ht]
      rfl
    rw [← e]
    exact h1
  · refine (h.srv.chg (hca.mono (fun b hb => .inl hb)) (fun b hb => ?_))
    rcases hb with (hb | hb) | hb
    · exact .inl (.inl hb)
    · exact .inr hb.1
    · exact .inl (.inr hb)

theorem NetM.newWhose (h : NetM w B gN X ps way Z v) (hb : Below w.heap.size w w0) {y : Nat} {A' : Option Addr} {c' : Nat} (ho : w1.ownsRow 0 3 1 (.slice A' (Z.whose.length + 1) c') (Z.whose.length + 1) (rowOf hcell (Z.whose ++ [y])))
    (hg : w0.grownBy w1 (Value.slice v.Ah Z.whose.length v.ch).ownBlock) (hn : (Value.slice A' (Z.whose.length + 1) c').ownBlock = (Value.slice v.Ah Z.whose.length v.ch).ownBlock ∨ (Value.slice A' (Z.whose.length + 1) c').ownBlock = some w0.heap.size) :
    (w1.cell? ⟨gN, 11, none⟩ = some (.slice v.Ah Z.whose.length v.ch) ∧ w1.frozen? ⟨gN, 11, none⟩ = false) ∧ NetM (w1.setCell ⟨gN, 11, none⟩ (.slice A' (Z.whose.length + 1) c')) B gN (fun b => X b ∨ (w.heap.size ≤ b ∧ b < w1.heap.size)) ps way { Z with whose := Z.whose ++ [y] } { v with Ah := A', ch := c' } ∧ Chg X w (w1.setCell ⟨gN, 11, none⟩ (.slice A' (Z.whose.length + 1) c')) := by
  have h0 := h.below hb
  have hc : Chg (fun b => (Value.slice v.Ah Z.whose.length v.ch).ownBlock = some b) w0 w1 := .of_grown hg (fun r hr => hr)
  have htop : Blk w1 gN 54 (netCells v ps.length way.length Z).toArray := h0.top.chg hc (fun he => by
    obtain ⟨cur, hk⟩ := own_has h0.wh he
    exact hk.ne_ h0.top (by decide) rfl)
  have hc2 : Chg (fun b => b = gN) w1 (w1.setCell ⟨gN, 11, none⟩ (.slice A' (Z.whose.length + 1) c')) := Chg.setCell (T := fun b => b = gN) (Chg.refl _ _) (p := ⟨gN, 11, none⟩) rfl _
  have hca : Chg X w (w1.setCell ⟨gN, 11, none⟩ (.slice A' (Z.whose.length + 1) c')) := ((Chg.of_below hb).trans (hc.mono (fun b hb => h.whX b hb))).trans (hc2.mono (fun b hb => by rw [hb]; exact h.topX))
  have key : ∀ {e : TypeId} {size n : Nat} {u : Value} {xs : List Value}, w0.ownsRow 0 e size u n xs → e ≠ 3 → e ≠ 54 → (w1.setCell ⟨gN, 11, none⟩ (.slice A' (Z.whose.length + 1) c')).ownsRow 0 e size u n xs := fun {e size n u xs} ho h1 h2 => by
    have ho1 := own_chg ho hc (fun g hg he => by
      obtain ⟨cur, hk⟩ := own_has h0.wh he
      exact own_blk_ne ho hk h1 hg)
    exact own_chg ho1 hc2 (fun g hg hg2 => own_blk_ne ho1 htop h2 (hg.trans (congrArg some hg2)))
  have hwy : RowZ w1 X 34 9 (.slice v.Aw way.length v.cw) way.length (rowOf xcell way) := h0.wy.chg hc (fun b cur hb hk he => by
    obtain ⟨cur2, hk2⟩ := own_has h0.wh he
    exact hk.ne_ hk2 (by decide) rfl)
  have hsz := hca.size
  have hs1 := hc.size
  have hs0 := hb.size
  have hBw := h.Bw
  have hlt := hc2.size
  refine ⟨⟨by rw [htop.cell]; exact (h.top.cell 11).symm.trans h.c11, htop.frozen 11⟩, ⟨h.tl, fun b hx => ?_, ?_, .inl h.topX, key h0.l (by decide) (by decide), fun g hg => .inl (h.lX g hg), (hwy.chg hc2 (fun b cur hb hk he => hk.ne_ htop (by decide) he)).mono (fun b hb => .inl hb), fun x hx => ⟨key (h0.ent x hx).1 (by decide) (by decide), fun g hg => .inl ((h.ent x hx).2 g hg)⟩,
    key h0.sure (by decide) (by decide), fun g hg => .inl (h.sureX g hg), key h0.ld (by decide) (by decide), fun g hg => .inl (h.ldX g hg), (own_chg (by rw [List.length_append, List.length_singleton]; exact ho) hc2 (fun g hg hg2 => by
      rw [List.length_append, List.length_singleton] at hg
      exact own_blk_ne ho htop (by decide) (hg.trans (congrArg some hg2)))), (fun g hg => by
      rw [List.length_append, List.length_singleton] at hg
      rcases hn with hn | hn
      · exact .inl (h.whX g (hn ▸ hg))
      · rw [hn] at hg
        injection hg with hg
        subst hg
        have := (World.ownsRow.lt ho _ hn).2
        exact .inr ⟨hs0, this⟩), ?_⟩, hca⟩
  · rcases hx with hx | hx
    · exact ⟨(h.Xw b hx).1, Nat.lt_of_lt_of_le (h.Xw b hx).2 hsz⟩
    · exact ⟨by omega, Nat.lt_of_lt_of_le hx.2 hlt⟩
  · have h1 := htop.set_ 11 (.slice A' (Z.whose.length + 1) c')
    rw [List.setIfInBounds_toArray] at h1
    have e : (netCells v ps.length way.length Z).set 11 (.slice A' (Z.whose.length + 1) c') = netCells { v with Ah := A', ch := c' } ps.length way.length { Z with whose := Z.whose ++ [y] } := by
      have hl : (Z.whose ++ [y]).length = Z.whose.length + 1 := by simp
      have ht := h.tl
      unfold netCells
      rw [List.set_append_right _ _ (by simp), List.set_append_right _ _ (by simp; omega)]
      simp only [hl, List.length_cons, List.length_nil, Nat.zero_add, List.length_map, ht]
      rfl
    rw [← e]
    exact h1
  · refine (h.srv.chg (hca.mono (fun b hb => .inl hb)) (fun b hb => ?_))
    rcases hb with (hb | hb) | hb
    · exact .inl (.inl hb)
    · exact .inr hb.1
    · exact .inl (.inr hb)
end
end Go.Proofs.Ytjodglepaeomiaa
