/- Contract of the laws' awake. -/
import Derived.Test.YtnipmhidiiondaaNew
namespace Go.Proofs.Ytnipmhidiiondaa
open Go.RowKit Go.Maps

/-- A cache that the call itself has made: it is there, and all else is as it was. -/
def Mine (w : World) (B g : Nat) (A : Abs) (w' : World) : Prop := ∃ p, CRep w' g A p ∧ Below B w w' ∧ ∀ b, Own g p b → B ≤ b
theorem Mine.keeps {w w1 w2 : World} {B g : Nat} {A' : Abs} {p : Pls} (hb : Below B w w1) (hB : B ≤ w1.heap.size) (ho : ∀ b, Own g p b → B ≤ b) (h : KeepsA w1 g p A' w2) : Mine w B g A' w2 := by
  obtain ⟨p', h1, h2, h3⟩ := h
  exact ⟨p', h1, Chg.below hb h2 hB ho, fun b hb => (h3 b hb).elim (ho b) (fun h => Nat.le_trans hB h)⟩
abbrev sA : ByteArray := ⟨#[97]⟩
abbrev sB : ByteArray := ⟨#[98]⟩
set_option maxHeartbeats 2000000 in
theorem awake_any (w : World) : Calls Try.prog 7 #[] w fun e w' => e = .returned (.bool true) ∧ Below w.heap.size w w' := by
  have hA : sA.size ≤ maxLen := by decide
  have hB : sB.size ≤ maxLen := by decide
  have HAB := Lib.hid (And.intro hA hB)
  clear hA hB
  go_enter Try.func7, Try.ntmps7
  go_wp2_with fail
  refine (new_any 1 w (by omega) (by omega)).mono ?_
  rintro e w1 ⟨g, p, rfl, hc, hb, ho⟩
  have H1 := Lib.hid (And.intro hc (And.intro hb ho))
  clear hc hb ho
  go_wp2_with fail
  refine (put_less g ⟨1, [], 0, 0⟩ p sA 1 w1 H1.out.1 HAB.out.1 rfl (by decide)).mono ?_
  rintro e w2 ⟨rfl, hk⟩
  obtain ⟨p2, c2, b2, o2⟩ := Mine.keeps H1.out.2.1 H1.out.2.1.size H1.out.2.2 hk
  have H2 := Lib.hid (And.intro c2 (And.intro b2 o2))
  clear hk c2 b2 o2 H1
  go_wp2_with fail
  refine (put_full g ⟨1, [(sA, 1)], 0, 0⟩ p2 sB 2 (sA, 1) w2 H2.out.1 HAB.out.2 (by decide) rfl rfl).mono ?_
  rintro e w3 ⟨rfl, hk⟩
  obtain ⟨p3, c3, b3, o3⟩ := Mine.keeps H2.out.2.1 H2.out.2.1.size H2.out.2.2 hk
  have H3 := Lib.hid (And.intro c3 (And.intro b3 o3))
  clear hk c3 b3 o3 H2
  go_wp2_with fail
  refine (get_some g ⟨1, [(sB, 2)], 0, 0⟩ p3 sB 2 w3 H3.out.1 HAB.out.2 (by decide) (by decide)).mono ?_
  rintro e w4 ⟨rfl, hk⟩
  obtain ⟨p4, c4, b4, o4⟩ := Mine.keeps H3.out.2.1 H3.out.2.1.size H3.out.2.2 hk
  have H4 := Lib.hid b4
  clear hk c4 b4 o4 H3
  go_wp2_with fail
  go_ret
  exact ⟨rfl, H4.out⟩
end Go.Proofs.Ytnipmhidiiondaa
