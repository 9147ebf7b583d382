/- FrameBack: what a reader has, and what was got. -/
import Derived.Test.YtmoplkmfpobhaaaFbl
namespace Go.Proofs.Ytmoplkmfpobhaaa
open Go.RowKit

/-- A list of bytes' lists; its elements lie between lo and hi. -/
def LG (w : World) (lo hi : Nat) (v : Value) (ls : List (List UInt8)) : Prop :=
  ∃ us : List Value, w.ownsRow lo 22 1 v ls.length us ∧ us.length = ls.length ∧ ∀ (i : Nat) (u : Value) (l : List UInt8), us[i]? = some u → ls[i]? = some l → Bod w lo u l ∧ ∀ g, u.ownBlock = some g → g < hi
theorem LG.nil_ (w : World) (lo hi : Nat) : LG w lo hi (.slice none 0 0) [] := ⟨[], World.ownsRow_nil _ _ _ _, rfl, fun i u l h => by simp at h⟩
theorem Bod.lo {w : World} {lo : Nat} {u : Value} {l : List UInt8} (h : Bod w lo u l) : ∀ g, u.ownBlock = some g → lo ≤ g := fun g hg => by
  obtain ⟨A, c, he, ho⟩ := h
  exact (World.ownsRow.lt ho g hg).1
theorem LG.chg {w w' : World} {lo hi : Nat} {v : Value} {ls : List (List UInt8)} (h : LG w lo hi v ls) {T : Nat → Prop} (hc : Chg T w w') (hT : ∀ k, T k → (k < lo ∨ hi ≤ k) ∧ v.ownBlock ≠ some k) : LG w' lo hi v ls := by
  obtain ⟨us, ho, hl, hu⟩ := h
  refine ⟨us, own_chg ho hc (fun g hg t => (hT g t).2 hg), hl, fun i u l h1 h2 => ?_⟩
  obtain ⟨hb, hlt⟩ := hu i u l h1 h2
  have hlo := hb.lo
  obtain ⟨A, c, he, ho'⟩ := hb
  refine ⟨⟨A, c, he, own_chg ho' hc (fun g hg t => ?_)⟩, hlt⟩
  have h3 := hlt g hg
  have h4 := hlo g hg
  rcases (hT g t).1 with h5 | h5 <;> omega
theorem LG.more {w : World} {lo hi hi' : Nat} {v : Value} {ls : List (List UInt8)} (h : LG w lo hi v ls) (hh : hi ≤ hi') : LG w lo hi' v ls := by
  obtain ⟨us, ho, hl, hu⟩ := h
  exact ⟨us, ho, hl, fun i u l h1 h2 => ⟨(hu i u l h1 h2).1, fun g hg => Nat.lt_of_lt_of_le ((hu i u l h1 h2).2 g hg) hh⟩⟩
theorem LG.rl {w : World} {lo hi c : Nat} {A : Option Addr} {ls : List (List UInt8)} (h : LG w lo hi (.slice A ls.length c) ls) : RL w w.heap.size A ls := by
  obtain ⟨us, ho, hl, hu⟩ := h
  exact LL.rl (c := c) ⟨us, ho, hl, fun i u l h1 h2 => (hu i u l h1 h2).1⟩

structure GInv (w2 wr : World) (br hi : Nat) (left : List UInt8) (tk : Nat) (gs : List (List UInt8)) (Av : Option Addr) (cv : Nat) (Ag : Option Addr) (cg : Nat) : Prop where
  r : Rdr wr br (.slice Av left.length cv) tk 0
  own : wr.ownsRow (br + 1) 5 1 (.slice Av left.length cv) left.length (bcells left)
  got : LG wr (br + 1) hi (.slice Ag gs.length cg) gs
  lhi : ∀ g, (Value.slice Av left.length cv).ownBlock = some g → hi ≤ g
  below : Below br w2 wr
  size : br + 1 ≤ wr.heap.size
  hsize : hi ≤ wr.heap.size
theorem GInv.chg {w2 wr wr' : World} {br hi : Nat} {left : List UInt8} {tk : Nat} {gs : List (List UInt8)} {Av : Option Addr} {cv : Nat} {Ag : Option Addr} {cg : Nat} (h : GInv w2 wr br hi left tk gs Av cv Ag cg) (hc : Chg (fun _ => False) wr wr') : GInv w2 wr' br hi left tk gs Av cv Ag cg :=
  ⟨h.r.chg hc (fun e => e), own_chg h.own hc (fun _ _ e => e), h.got.chg hc (fun _ e => e.elim), h.lhi, Chg.below h.below hc (by have := h.size; omega) (fun _ e => e.elim), Nat.le_trans h.size hc.size, Nat.le_trans h.hsize hc.size⟩

/-- Behind Feed, ahead of append. -/
structure GMid (w2 w : World) (br mid : Nat) (left : List UInt8) (tk : Nat) (gs : List (List UInt8)) (Av : Option Addr) (cv : Nat) (Ag : Option Addr) (cg : Nat) (Al : Option Addr) (cl : Nat) (ms : List (List UInt8)) : Prop where
  i : GInv w2 w br mid left tk gs Av cv Ag cg
  new : LB w (br + 1) mid (.slice Al ms.length cl) ms
theorem LB.chgF {w w' : World} {lo hi : Nat} {v : Value} {ls : List (List UInt8)} (h : LB w lo hi v ls) (hc : Chg (fun _ => False) w w') : LB w' lo hi v ls := by
  obtain ⟨us, ho, hv, hl, hu⟩ := h
  refine ⟨us, own_chg ho hc (fun _ _ e => e), hv, hl, fun i u l h1 h2 => ?_⟩
  obtain ⟨⟨A, c, he, ho'⟩, hlt⟩ := hu i u l h1 h2
  exact ⟨⟨A, c, he, own_chg ho' hc (fun _ _ e => e)⟩, hlt⟩
theorem GMid.chg {w2 w w' : World} {br mid : Nat} {left : List UInt8} {tk : Nat} {gs : List (List UInt8)} {Av : Option Addr} {cv : Nat} {Ag : Option Addr} {cg : Nat} {Al : Option Addr} {cl : Nat} {ms : List (List UInt8)} (h : GMid w2 w br mid left tk gs Av cv Ag cg Al cl ms) (hc : Chg (fun _ => False) w w') : GMid w2 w' br mid left tk gs Av cv Ag cg Al cl ms :=
  ⟨h.i.chg hc, h.new.chgF hc⟩
theorem GInv.feed {w2 wr w5 : World} {br hi mid : Nat} {left left' : List UInt8} {tk tk' : Nat} {gs ms : List (List UInt8)} {Av Av' : Option Addr} {cv cv' : Nat} {Ag : Option Addr} {cg : Nat} {Al : Option Addr} {cl : Nat}
    (h : GInv w2 wr br hi left tk gs Av cv Ag cg) (r5 : Rdr w5 br (.slice Av' left'.length cv') tk' 0) (o5 : w5.ownsRow (br + 1) 5 1 (.slice Av' left'.length cv') left'.length (bcells left'))
    (l5 : LB w5 wr.heap.size mid (.slice Al ms.length cl) ms) (m1 : mid ≤ w5.heap.size) (m2 : wr.heap.size ≤ mid) (m3 : ∀ g, (Value.slice Av' left'.length cv').ownBlock = some g → mid ≤ g)
    (c5 : Chg (fun k => k = br ∨ (Value.slice Av left.length cv).ownBlock = some k) wr w5) : GMid w2 w5 br mid left' tk' gs Av' cv' Ag cg Al cl ms := by
  have hs := h.size
  have hh := h.hsize
  have hlt : ∀ g, (Value.slice Av left.length cv).ownBlock = some g → br + 1 ≤ g := fun g hg => (World.ownsRow.lt h.own g hg).1
  refine ⟨⟨r5, o5, (h.got.chg c5 (fun k hk => ?_)).more (by omega), m3, Chg.below h.below c5 (by omega) (fun k hk => ?_), Nat.le_trans hs c5.size, m1⟩, ?_⟩
  · rcases hk with rfl | hk
    · refine ⟨.inl (by omega), fun e => ?_⟩
      obtain ⟨us, ho, _⟩ := h.got
      have := (World.ownsRow.lt ho _ e).1
      omega
    · refine ⟨.inr (h.lhi k hk), fun e => ?_⟩
      obtain ⟨us, ho, _⟩ := h.got
      rcases own_ne h.own ho (by decide) with h1 | h1
      · rw [h1] at hk; cases hk
      · exact h1 (hk.trans e.symm)
  · rcases hk with rfl | hk
    · omega
    · have := hlt k hk; omega
  · obtain ⟨us, ho, hv, hl, hu⟩ := l5
    exact ⟨us, own_mono ho (by omega), hv, hl, fun i u l h1 h2 => ⟨(hu i u l h1 h2).1.mono (by omega), (hu i u l h1 h2).2⟩⟩
theorem GMid.app {w2 w : World} {br mid : Nat} {left : List UInt8} {tk : Nat} {gs : List (List UInt8)} {Av : Option Addr} {cv : Nat} {Ag : Option Addr} {cg : Nat} {Al : Option Addr} {cl : Nat} {ms : List (List UInt8)} (h : GMid w2 w br mid left tk gs Av cv Ag cg Al cl ms) :
    ∃ us us2 : List Value, w.ownsRow (br + 1) 22 1 (.slice Ag gs.length cg) gs.length us ∧ Reads w w.heap.size 1 Al ms.length us2 ∧ (∀ u ∈ us2, u.oneCell' = true) ∧
      ∀ A c w', w'.ownsRow (br + 1) 22 1 (.slice A (gs.length + ms.length) c) (gs.length + ms.length) (us ++ us2) → w.grownBy w' (Value.slice Ag gs.length cg).ownBlock → GInv w2 w' br mid left tk (gs ++ ms) Av cv A c := by
  obtain ⟨us, ho, hl, hu⟩ := h.i.got
  obtain ⟨us2, ho2, hv2, hl2, hu2⟩ := h.new
  refine ⟨us, us2, ho, Reads.of_own ho2, fun u hm => ?_, fun A c w' ho' hg => ?_⟩
  · obtain ⟨i, hi, rfl⟩ := List.getElem_of_mem hm
    obtain ⟨⟨A, c, he, _⟩, _⟩ := hu2 i _ ms[i] (List.getElem?_eq_getElem hi) (List.getElem?_eq_getElem (by omega))
    rw [he]; rfl
  · have hc : Chg (fun k => (Value.slice Ag gs.length cg).ownBlock = some k) w w' := Chg.of_grown hg (fun r e => e)
    have hlo : ∀ g, (Value.slice Ag gs.length cg).ownBlock = some g → br + 1 ≤ g := fun g e => (World.ownsRow.lt ho g e).1
    have kk : ∀ (u : Value) (l : List UInt8), Bod w (br + 1) u l → Bod w' (br + 1) u l := fun u l hh => by
      obtain ⟨A, c, he, ho2⟩ := hh
      exact ⟨A, c, he, ho2.kept hg (own_ne ho2 ho (by decide))⟩
    refine ⟨h.i.r.chg hc (fun e => by have := hlo _ e; omega), h.i.own.kept hg (own_ne h.i.own ho (by decide)), ?_, h.i.lhi, Chg.below h.i.below hc (by have := h.i.size; omega) (fun k e => by have := hlo _ e; omega), Nat.le_trans h.i.size hc.size, Nat.le_trans h.i.hsize hc.size⟩
    refine ⟨us ++ us2, by rw [List.length_append]; exact ho', by rw [List.length_append, List.length_append, hl, hl2], fun i x y h1 h2 => ?_⟩
    rw [List.getElem?_append] at h1 h2
    by_cases hi : i < us.length
    · rw [if_pos hi] at h1
      rw [if_pos (by omega)] at h2
      exact ⟨kk _ _ (hu i x y h1 h2).1, (hu i x y h1 h2).2⟩
    · rw [if_neg hi] at h1
      rw [if_neg (by omega), ← hl] at h2
      exact ⟨kk _ _ (hu2 _ x y h1 h2).1, (hu2 _ x y h1 h2).2⟩
end Go.Proofs.Ytmoplkmfpobhaaa
