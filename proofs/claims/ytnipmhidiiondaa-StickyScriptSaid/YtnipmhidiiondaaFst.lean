/- Contracts of the cache's first, touch. -/
import Derived.RegionTactic
import Derived.BigRegion
import Derived.Outline
import Derived.Test.YtnipmhidiiondaaCut
namespace Go.Proofs.Ytnipmhidiiondaa
open Go.RowKit

def firstC (cs : List Cel) (i : Nat) : List Cel := setN (setA (setN (setA cs i 0) i (nx cs 0)) (nx cs 0) i) 0 i
set_option maxHeartbeats 4000000 in
theorem first_any (g : Nat) (S : Sta) (p : Pls) (i : Nat) (w : World) (h : Rep w g S p) (hi : i < S.cs.length) (hn : nx S.cs 0 < S.cs.length) (hl : S.cs.length ≤ 100000) :
    Calls Try.prog 40 #[.pointer (some ⟨g, 0, none⟩), .int .i64 (i : Nat)] w fun e w' => e = .returned (.tuple #[]) ∧ Rep w' g { S with cs := firstC S.cs i } p ∧ Chg (Own g p) w w' := by
  obtain ⟨gm, gc, cap, fv⟩ := p
  have HR := Lib.hid h
  obtain ⟨b, hbb⟩ : ∃ b, b = nx S.cs 0 := ⟨_, rfl⟩
  obtain ⟨n, hnn⟩ : ∃ n, n = S.cs.length := ⟨_, rfl⟩
  have hn0 : 0 < S.cs.length := by omega
  have c2 : w.cell? ⟨g, 2, none⟩ = some (.slice (some ⟨gc, 0, none⟩) n cap) := by rw [hnn]; exact h.top.cell 2
  have d3 : w.cell? ⟨gc, 3, none⟩ = some (.int .i64 (b : Nat)) := by rw [hbb]; exact h.cell (i := 0) (j := 3) hn0 rfl
  have e2 : w.cell? ⟨gc, i * 4 + 2, none⟩ = some (.int .i64 (ah S.cs i : Nat)) := h.cell (j := 2) hi rfl
  have e3 : w.cell? ⟨gc, i * 4 + 3, none⟩ = some (.int .i64 (nx S.cs i : Nat)) := h.cell (j := 3) hi rfl
  have f2 : w.frozen? ⟨gc, i * 4 + 2, none⟩ = false := h.frz _
  have f3 : w.frozen? ⟨gc, i * 4 + 3, none⟩ = false := h.frz _
  have hgc : ¬ gc = g := h.gc_ne
  have hin : (i : Int) < (n : Int) := by omega
  have hi0 : (0 : Int) ≤ (i : Int) := by omega
  have h0n : 0 < n := by omega
  have h0n' : (0 : Int) < (n : Int) := by omega
  rw [← hbb] at hn
  rw [← hnn] at hn hl
  have HN := Lib.hid hnn
  have HB := Lib.hid hbb
  clear hnn h hbb hn0 hi
  obtain ⟨HP1, HK1⟩ : Rep (w.setCell ⟨gc, i * 4 + 2, none⟩ (.int .i64 0)) g { S with cs := setA S.cs i 0 } ⟨gm, gc, cap, fv⟩ ∧ Chg (Own g ⟨gm, gc, cap, fv⟩) w (w.setCell ⟨gc, i * 4 + 2, none⟩ (.int .i64 0)) := HR.out.put (i := i) (j := 2) (by rw [← HN.out]; omega) (by omega) rfl
  obtain ⟨HP2, HK2⟩ : Rep ((w.setCell ⟨gc, i * 4 + 2, none⟩ (.int .i64 0)).setCell ⟨gc, i * 4 + 3, none⟩ (.int .i64 (b : Nat))) g { S with cs := setN (setA S.cs i 0) i b } ⟨gm, gc, cap, fv⟩ ∧ Chg (Own g ⟨gm, gc, cap, fv⟩) (w.setCell ⟨gc, i * 4 + 2, none⟩ (.int .i64 0)) ((w.setCell ⟨gc, i * 4 + 2, none⟩ (.int .i64 0)).setCell ⟨gc, i * 4 + 3, none⟩ (.int .i64 (b : Nat))) := HP1.put (i := i) (j := 3) (by show i < (setA S.cs i 0).length; rw [len_setA, ← HN.out]; omega) (by omega) rfl
  have HR1 := Lib.hid HP2.drew
  have HC1 := Lib.hid ((HK1.trans HK2).drew)
  clear HP1 HK1 HP2 HK2
  go_enter Try.func40, Try.ntmps40
  go_wp2_with fail
  go_region
  clear c2 d3 e2 e3 f2 f3 HR
  generalize ((w.setCell ⟨gc, i * 4 + 2, none⟩ (.int .i64 0)).setCell ⟨gc, i * 4 + 3, none⟩ (.int .i64 (b : Nat))).drew = w1 at *
  have hnn : n = ({ S with cs := setN (setA S.cs i 0) i b } : Sta).cs.length := by show n = (setN (setA S.cs i 0) i b).length; rw [len_setN, len_setA]; exact HN.out
  have c2 : w1.cell? ⟨g, 2, none⟩ = some (.slice (some ⟨gc, 0, none⟩) n cap) := by rw [hnn]; exact HR1.out.top.cell 2
  have e2 : w1.cell? ⟨gc, b * 4 + 2, none⟩ = some (.int .i64 (ah (setN (setA S.cs i 0) i b) b : Nat)) := HR1.out.cell (i := b) (j := 2) (by rw [← hnn]; exact hn) rfl
  have f2 : w1.frozen? ⟨gc, b * 4 + 2, none⟩ = false := HR1.out.frz _
  have e3 : w1.cell? ⟨gc, 3, none⟩ = some (.int .i64 (nx (setN (setA S.cs i 0) i b) 0 : Nat)) := HR1.out.cell (i := 0) (j := 3) (by rw [← hnn]; omega) rfl
  have f3 : w1.frozen? ⟨gc, 3, none⟩ = false := HR1.out.frz _
  have hne : ¬ b * 4 + 2 = 3 := by omega
  have hbn : (b : Int) < (n : Int) := by omega
  have hb0 : (0 : Int) ≤ (b : Int) := by omega
  obtain ⟨HP1, HK1⟩ : Rep (w1.setCell ⟨gc, b * 4 + 2, none⟩ (.int .i64 (i : Nat))) g { S with cs := setA (setN (setA S.cs i 0) i b) b i } ⟨gm, gc, cap, fv⟩ ∧ Chg (Own g ⟨gm, gc, cap, fv⟩) w1 (w1.setCell ⟨gc, b * 4 + 2, none⟩ (.int .i64 (i : Nat))) := HR1.out.put (i := b) (j := 2) (by rw [← hnn]; exact hn) (by omega) rfl
  obtain ⟨HP2, HK2⟩ : Rep ((w1.setCell ⟨gc, b * 4 + 2, none⟩ (.int .i64 (i : Nat))).setCell ⟨gc, 0 * 4 + 3, none⟩ (.int .i64 (i : Nat))) g { S with cs := setN (setA (setN (setA S.cs i 0) i b) b i) 0 i } ⟨gm, gc, cap, fv⟩ ∧ Chg (Own g ⟨gm, gc, cap, fv⟩) (w1.setCell ⟨gc, b * 4 + 2, none⟩ (.int .i64 (i : Nat))) ((w1.setCell ⟨gc, b * 4 + 2, none⟩ (.int .i64 (i : Nat))).setCell ⟨gc, 0 * 4 + 3, none⟩ (.int .i64 (i : Nat))) := HP1.put (i := 0) (j := 3) (by show 0 < (setA (setN (setA S.cs i 0) i b) b i).length; rw [len_setA]; exact Nat.lt_of_lt_of_eq (by omega) hnn) (by omega) rfl
  have HRF := Lib.hid HP2
  have HCF := Lib.hid (HC1.out.trans (HK1.trans HK2))
  have HNN := Lib.hid hnn
  clear HP1 HK1 HP2 HK2 hnn
  go_wp2_with fail
  go_end0
  exact ⟨rfl, by unfold firstC; rw [← HB.out]; exact HRF.out, HCF.out⟩

set_option maxHeartbeats 1000000 in
theorem touch_any (g : Nat) (S : Sta) (p : Pls) (i : Nat) (w : World) (h : Rep w g S p) (hi : i < S.cs.length) (ha : ah S.cs i < S.cs.length) (hn : nx S.cs i < S.cs.length) (hn0 : nx (cutC S.cs i) 0 < S.cs.length) (hl : S.cs.length ≤ 100000) :
    Calls Try.prog 37 #[.pointer (some ⟨g, 0, none⟩), .int .i64 (i : Nat)] w fun e w' => e = .returned (.tuple #[]) ∧ Rep w' g { S with cs := firstC (cutC S.cs i) i } p ∧ Chg (Own g p) w w' := by
  have HCUT := Lib.hid (cut_any g S p i w h hi ha hn hl)
  have hlen : (cutC S.cs i).length = S.cs.length := by unfold cutC; rw [len_setA, len_setN]
  have HFST := Lib.hid (fun W (hw : Rep W g { S with cs := cutC S.cs i } p) => first_any g { S with cs := cutC S.cs i } p i W hw (by show i < (cutC S.cs i).length; rw [hlen]; exact hi) (by show nx (cutC S.cs i) 0 < (cutC S.cs i).length; rw [hlen]; exact hn0) (by show (cutC S.cs i).length ≤ _; rw [hlen]; exact hl))
  clear h hi ha hn hn0 hl hlen
  go_enter Try.func37, Try.ntmps37
  go_wp2_with fail
  refine HCUT.out.mono ?_
  rintro e w1 ⟨rfl, h1, hc1⟩
  have H1 := Lib.hid (HFST.out w1 h1)
  have HC1 := Lib.hid hc1
  clear h1 hc1
  go_wp2_with fail
  refine H1.out.mono ?_
  rintro e w2 ⟨rfl, h2, hc2⟩
  have H2 := Lib.hid h2
  have HC2 := Lib.hid (HC1.out.trans hc2)
  clear h2 hc2
  go_wp2_with fail
  go_end0
  exact ⟨rfl, H2.out, HC2.out⟩
end Go.Proofs.Ytnipmhidiiondaa
