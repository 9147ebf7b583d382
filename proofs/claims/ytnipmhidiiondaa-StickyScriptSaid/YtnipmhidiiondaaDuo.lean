/- The two caches of StickyScript in memory: the cell's and the document's. No walk. -/
import Derived.Test.YtnipmhidiiondaaRf6
import Derived.Test.YtnipmhidiiondaaShr
import Derived.Test.YtnipmhidiiondaaNme
namespace Go.Proofs.Ytnipmhidiiondaa
open Go.RowKit Go.Maps

theorem RR.chg {w w' : World} {g cap : Nat} {A : Abs} {AL : Option Addr} {T : Nat → Prop} (h : RR w g A AL cap) (hc : Chg T w w') (hg : ¬ T g) (ha : ∀ a, AL = some a → ¬ T a.block) : RR w' g A AL cap :=
  ⟨(hc.block g h.top.lt hg).trans h.top, h.rd.keep hc.size (fun p hp hlt => World.cell?_of_block (hc.block p.block hlt (fun e => by
    obtain ⟨a, ha2, hb⟩ := hp
    exact ha a ha2 (by rw [hb]; exact e)))), h.cp, h.ne, fun a ha2 => Nat.lt_of_lt_of_le (h.lt a ha2) hc.size⟩
structure Duo (w : World) (B gc : Nat) (Ac : Abs) (pc : Pls) (gd : Nat) (Ad : Abs) (AL : Option Addr) (cap : Nat) (w' : World) : Prop where
  c : CRep w' gc Ac pc
  d : RR w' gd Ad AL cap
  far : ¬ Own gc pc gd
  far2 : ∀ a, AL = some a → ¬ Own gc pc a.block
  oc : ∀ b, Own gc pc b → B ≤ b
  od : B ≤ gd
  bel : Below B w w'
  le : B ≤ w'.heap.size
section
variable {w w1 w2 : World} {B gc gd cap : Nat} {Ac Ad A' : Abs} {pc : Pls} {AL : Option Addr}
theorem Duo.below (h : Duo w B gc Ac pc gd Ad AL cap w1) (hb : Below w1.heap.size w1 w2) : Duo w B gc Ac pc gd Ad AL cap w2 :=
  ⟨h.c.below hb, h.d.below hb, h.far, h.far2, h.oc, h.od, h.bel.trans (hb.mono h.le), Nat.le_trans h.le hb.size⟩
theorem Duo.left (h : Duo w B gc Ac pc gd Ad AL cap w1) (k : KeepsA w1 gc pc A' w2) : ∃ pc', Duo w B gc A' pc' gd Ad AL cap w2 := by
  obtain ⟨p', k1, k2, k3⟩ := k
  refine ⟨p', k1, h.d.chg k2 h.far h.far2, fun hb => ?_, fun a ha hb => ?_, fun b hb => ?_, h.od, Chg.below h.bel k2 h.le h.oc, Nat.le_trans h.le k2.size⟩
  · rcases k3 _ hb with h1 | h1
    · exact h.far h1
    · have := h.d.top.lt; omega
  · rcases k3 _ hb with h1 | h1
    · exact h.far2 a ha h1
    · have := h.d.lt a ha; omega
  · exact (k3 b hb).elim (h.oc b) (fun h1 => Nat.le_trans h.le h1)
theorem Duo.right (h : Duo w B gc Ac pc gd Ad AL cap w1) (k : KeepsR w1 gd AL A' w2) : ∃ AL' cap', Duo w B gc Ac pc gd A' AL' cap' w2 := by
  obtain ⟨AL', cap', k1, k2, k3⟩ := k
  refine ⟨AL', cap', h.c.chg k2 (fun b hb e => h.far (e ▸ hb)), k1, h.far, fun a ha hb => ?_, h.oc, h.od, Chg.below h.bel k2 h.le (fun b e => by rw [e]; exact h.od), Nat.le_trans h.le k2.size⟩
  rcases k3 a ha with ⟨a0, h0, h1⟩ | h1
  · exact h.far2 a0 h0 (by rw [h1]; exact hb)
  · have := h.c.lt _ hb; omega
end
end Go.Proofs.Ytnipmhidiiondaa
