/- Contracts of the cache's cut. -/
import Derived.RegionTactic
import Derived.BigRegion
import Derived.Outline
import Derived.Test.YtnipmhidiiondaaRep
namespace Go.Proofs.Ytnipmhidiiondaa
open Go.RowKit

def cutC (cs : List Cel) (i : Nat) : List Cel := setA (setN cs (ah cs i) (nx cs i)) (nx cs i) (ah cs i)
set_option maxHeartbeats 4000000 in
theorem cut_any (g : Nat) (S : Sta) (p : Pls) (i : Nat) (w : World) (h : Rep w g S p) (hi : i < S.cs.length) (ha : ah S.cs i < S.cs.length) (hn : nx S.cs i < S.cs.length) (hl : S.cs.length ≤ 100000) :
    Calls Try.prog 53 #[.pointer (some ⟨g, 0, none⟩), .int .i64 (i : Nat)] w fun e w' => e = .returned (.tuple #[]) ∧ Rep w' g { S with cs := cutC S.cs i } p ∧ Chg (Own g p) w w' := by
  obtain ⟨gm, gc, cap, fv⟩ := p
  have HR := Lib.hid h
  obtain ⟨a, haa⟩ : ∃ a, a = ah S.cs i := ⟨_, rfl⟩
  obtain ⟨b, hbb⟩ : ∃ b, b = nx S.cs i := ⟨_, rfl⟩
  obtain ⟨n, hnn⟩ : ∃ n, n = S.cs.length := ⟨_, rfl⟩
  obtain ⟨c, hcc⟩ : ∃ c, c = S.cs.getD i Cel.zero := ⟨_, rfl⟩
  have c2 : w.cell? ⟨g, 2, none⟩ = some (.slice (some ⟨gc, 0, none⟩) n cap) := by rw [hnn]; exact h.top.cell 2
  have d0 : w.cell? ⟨gc, i * 4, none⟩ = some (.string c.name) := by rw [hcc]; exact h.cell (j := 0) hi rfl
  have d1 : w.cell? ⟨gc, i * 4 + 1, none⟩ = some (.int .i64 c.v) := by rw [hcc]; exact h.cell (j := 1) hi rfl
  have d2 : w.cell? ⟨gc, i * 4 + 2, none⟩ = some (.int .i64 (a : Nat)) := by rw [haa]; exact h.cell (j := 2) hi rfl
  have d3 : w.cell? ⟨gc, i * 4 + 3, none⟩ = some (.int .i64 (b : Nat)) := by rw [hbb]; exact h.cell (j := 3) hi rfl
  have hin : (i : Int) < (n : Int) := by omega
  have hi0 : (0 : Int) ≤ (i : Int) := by omega
  rw [← haa] at ha
  rw [← hbb] at hn
  rw [← hnn] at ha hn hl
  have HN := Lib.hid hnn
  have HA := Lib.hid haa
  have HB := Lib.hid hbb
  clear hnn hcc h haa hbb hi
  go_enter Try.func53, Try.ntmps53
  go_wp2_with fail
  have HX : Hid (Blk (w.alloc (.cells #[.string c.name, .int .i64 c.v, .int .i64 (a : Nat), .int .i64 (b : Nat)] 66)) w.heap.size 66 #[.string c.name, .int .i64 c.v, .int .i64 (a : Nat), .int .i64 (b : Nat)]) := Blk.new w 66 _
  have HC : Hid (Chg (Own g ⟨gm, gc, cap, fv⟩) w (w.alloc (.cells #[.string c.name, .int .i64 c.v, .int .i64 (a : Nat), .int .i64 (b : Nat)] 66))) := (Chg.refl _ w).alloc _
  have HXO : Hid (¬ Own g ⟨gm, gc, cap, fv⟩ w.heap.size) := fun h => absurd (HR.out.lt _ h) (Nat.lt_irrefl _)
  replace HR := Lib.hid (HR.out.alloc (.cells #[.string c.name, .int .i64 c.v, .int .i64 (a : Nat), .int .i64 (b : Nat)] 66))
  clear c2 d0 d1 d2 d3
  generalize w.alloc (.cells #[.string c.name, .int .i64 c.v, .int .i64 (a : Nat), .int .i64 (b : Nat)] 66) = w1 at *
  generalize w.heap.size = xb at *
  have c2 : w1.cell? ⟨g, 2, none⟩ = some (.slice (some ⟨gc, 0, none⟩) n cap) := by rw [HN.out]; exact HR.out.top.cell 2
  have x2 : w1.cell? ⟨xb, 2, none⟩ = some (.int .i64 (a : Nat)) := HX.out.cell 2
  have x3 : w1.cell? ⟨xb, 3, none⟩ = some (.int .i64 (b : Nat)) := HX.out.cell 3
  have d3 : w1.cell? ⟨gc, a * 4 + 3, none⟩ = some (.int .i64 (nx S.cs a : Nat)) := HR.out.cell (i := a) (j := 3) (by rw [← HN.out]; exact ha) rfl
  have f3 : w1.frozen? ⟨gc, a * 4 + 3, none⟩ = false := HR.out.frz _
  have han : (a : Int) < (n : Int) := by omega
  have ha0 : (0 : Int) ≤ (a : Int) := by omega
  have HP : Hid (Rep (w1.setCell ⟨gc, a * 4 + 3, none⟩ (.int .i64 (b : Nat))) g { S with cs := setN S.cs a b } ⟨gm, gc, cap, fv⟩ ∧ Chg (Own g ⟨gm, gc, cap, fv⟩) w1 (w1.setCell ⟨gc, a * 4 + 3, none⟩ (.int .i64 (b : Nat)))) := HR.out.put (i := a) (j := 3) (by rw [← HN.out]; exact ha) (by omega) rfl
  have HX2 : Hid (Blk (w1.setCell ⟨gc, a * 4 + 3, none⟩ (.int .i64 (b : Nat))) xb 66 #[.string c.name, .int .i64 c.v, .int .i64 (a : Nat), .int .i64 (b : Nat)]) := HX.out.chg HP.out.2 HXO.out
  go_region
  go_wp2_with fail
  have HR2 := Lib.hid HP.out.1.drew
  have HC2 := Lib.hid (HC.out.trans HP.out.2.drew)
  replace HX2 := Lib.hid HX2.out.drew
  clear c2 x2 x3 d3 f3 HP HX HC HR
  generalize (w1.setCell ⟨gc, a * 4 + 3, none⟩ (.int .i64 (b : Nat))).drew = w2 at *
  have hnn : ({ S with cs := setN S.cs a b } : Sta).cs.length = n := by rw [HN.out]; exact len_setN
  have c2 : w2.cell? ⟨g, 2, none⟩ = some (.slice (some ⟨gc, 0, none⟩) n cap) := by rw [← hnn]; exact HR2.out.top.cell 2
  have x2 : w2.cell? ⟨xb, 2, none⟩ = some (.int .i64 (a : Nat)) := HX2.out.cell 2
  have x3 : w2.cell? ⟨xb, 3, none⟩ = some (.int .i64 (b : Nat)) := HX2.out.cell 3
  have d3 : w2.cell? ⟨gc, b * 4 + 2, none⟩ = some (.int .i64 (ah (setN S.cs a b) b : Nat)) := HR2.out.cell (i := b) (j := 2) (by rw [hnn]; exact hn) rfl
  have f3 : w2.frozen? ⟨gc, b * 4 + 2, none⟩ = false := HR2.out.frz _
  have hbn : (b : Int) < (n : Int) := by omega
  have hb0 : (0 : Int) ≤ (b : Int) := by omega
  have HP : Hid (Rep (w2.setCell ⟨gc, b * 4 + 2, none⟩ (.int .i64 (a : Nat))) g { S with cs := setA (setN S.cs a b) b a } ⟨gm, gc, cap, fv⟩ ∧ Chg (Own g ⟨gm, gc, cap, fv⟩) w2 (w2.setCell ⟨gc, b * 4 + 2, none⟩ (.int .i64 (a : Nat)))) := HR2.out.put (i := b) (j := 2) (by rw [hnn]; exact hn) (by omega) rfl
  have HNN := Lib.hid hnn
  clear hnn
  go_region
  go_wp2_with fail
  go_end0
  exact ⟨rfl, by unfold cutC; rw [← HA.out, ← HB.out]; exact HP.out.1.drew, HC2.out.trans HP.out.2.drew⟩
end Go.Proofs.Ytnipmhidiiondaa
