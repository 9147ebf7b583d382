/- Contract of the cache's out. -/
import Derived.Deep.Cut
import Derived.Test.YtnipmhidiiondaaRp2
import Derived.Test.YtnipmhidiiondaaFst
namespace Go.Proofs.Ytnipmhidiiondaa
open Go.RowKit Go.Maps

def outS (S : Sta) (i : Nat) : Sta := { S with cs := (cutC S.cs i).set i Cel.zero, fl := S.fl ++ [i], f := fdel S.f (nm S.cs i), m := if (S.f (nm S.cs i)).isSome then S.m - 1 else S.m }
def Keeps (w : World) (g : Nat) (p : Pls) (S' : Sta) (w' : World) : Prop := ∃ p', Rep w' g S' p' ∧ Chg (Own g p) w w' ∧ ∀ b, Own g p' b → Own g p b ∨ w.heap.size ≤ b

set_option maxHeartbeats 4000000 in
theorem out_any (g : Nat) (S : Sta) (p : Pls) (i : Nat) (w : World) (h : Rep w g S p) (hi : i < S.cs.length) (ha : ah S.cs i < S.cs.length) (hn : nx S.cs i < S.cs.length) (hnm : (nm S.cs i).size ≤ maxLen) (hl : S.cs.length ≤ 100000) (hfl : S.fl.length ≤ 100000) :
    Calls Try.prog 45 #[.pointer (some ⟨g, 0, none⟩), .int .i64 (i : Nat)] w fun e w' => e = .returned (.string (nm S.cs i)) ∧ Keeps w g p (outS S i) w' := by
  obtain ⟨gm, gc, cap, fv⟩ := p
  have HCUT := Lib.hid (cut_any g S ⟨gm, gc, cap, fv⟩ i w h hi ha hn hl)
  have HGLT : Hid (g < w.heap.size) := h.top.lt
  obtain ⟨s, hs⟩ : ∃ s, s = nm S.cs i := ⟨_, rfl⟩
  obtain ⟨n, hnn⟩ : ∃ n, n = S.cs.length := ⟨_, rfl⟩
  have c2 : w.cell? ⟨g, 2, none⟩ = some (.slice (some ⟨gc, 0, none⟩) n cap) := by rw [hnn]; exact h.top.cell 2
  have d0 : w.cell? ⟨gc, i * 4, none⟩ = some (.string s) := by rw [hs]; exact h.cell (j := 0) hi rfl
  have hin : (i : Int) < (n : Int) := by omega
  have hi0 : (0 : Int) ≤ (i : Int) := by omega
  have hlc : (cutC S.cs i).length = n := by unfold cutC; rw [len_setA, len_setN, hnn]
  rw [← hs] at hnm ⊢
  rw [← hnn] at hl
  have HN := Lib.hid hnn
  have HS := Lib.hid hs
  have HNM := Lib.hid hnm
  have HLC := Lib.hid hlc
  have HFL := Lib.hid hfl
  clear hnn h hi ha hn hs hnm hlc hfl
  go_enter Try.func45, Try.ntmps45
  go_wp2_with fail
  refine HCUT.out.mono ?_
  rintro e w1 ⟨rfl, h1, hc1⟩
  have HR := Lib.hid h1
  have HC := Lib.hid hc1
  have c1 : w1.cell? ⟨g, 1, none⟩ = some (.map (some gm)) := h1.top.cell 1
  obtain ⟨D, hD, hsz, hf⟩ := h1.map
  have HD := Lib.hid (And.intro hD (And.intro hsz hf))
  clear h1 hc1 hD hsz hf c2 d0
  have z0 : True := trivial
  have z1 : True := trivial
  go_upto_region 5 with (first
    | (at_delete; refine wpList_delete_own _ rfl (.tmp 20) (.tmp 21) 51 9 rfl 3 law9 Try.underlying51 (plainElem Try.prog 3) gm S.m D rfl HD.out.1 (.string s) (kd s) rfl (key9 HNM.out) ?_; intro w2 ho2 ht2; obtain ⟨hr2, hc2⟩ := HR.out.newMap ht2.grown (MapR.del ho2 HD.out.1 HD.out.2.1 HD.out.2.2); have HR2 := Lib.hid hr2; have HC2 := Lib.hid (HC.out.trans hc2); have k2 : w2.cell? ⟨g, 2, none⟩ = some (.slice (some ⟨gc, 0, none⟩) n cap) := by { rw [← HLC.out]; exact hr2.top.cell 2 }; have HT : Hid (w2.there gc (i * 4) (#[.string ⟨#[]⟩, .int .i64 0, .int .i64 0, .int .i64 0] : Array Value).size) := hr2.there (by { show i < (cutC S.cs i).length; rw [HLC.out]; omega }); clear ho2 ht2 hr2 hc2 z0)
    | (refine wpList_store_mid rfl 66 (.tmp 28) (.tmp 27) rfl gc (i * 4) #[.string ⟨#[]⟩, .int .i64 0, .int .i64 0, .int .i64 0] rfl rfl HT.out (by kernel_rfl) (by kernel_rfl) ?_; clear z1))
  obtain ⟨hr3, hc3⟩ : Rep (w2.setCells gc (i * 4) [.string ⟨#[]⟩, .int .i64 0, .int .i64 0, .int .i64 0]) g { S with cs := (cutC S.cs i).set i Cel.zero, f := fdel S.f s, m := if (S.f s).isSome then S.m - 1 else S.m } ⟨gm, gc, cap, fv⟩ ∧ Chg (Own g ⟨gm, gc, cap, fv⟩) w2 (w2.setCells gc (i * 4) [.string ⟨#[]⟩, .int .i64 0, .int .i64 0, .int .i64 0]) := HR2.out.lay Cel.zero (by show i < (cutC S.cs i).length; rw [HLC.out]; omega)
  have HR3 := Lib.hid hr3
  have HC3 := Lib.hid (HC2.out.trans hc3)
  clear hr3 hc3 HR2 HC2 HR HC HD k2 HT c1
  generalize w2.setCells gc (i * 4) [.string ⟨#[]⟩, .int .i64 0, .int .i64 0, .int .i64 0] = w3 at *
  have k3 : w3.cell? ⟨g, 3, none⟩ = some fv := HR3.out.top.cell 3
  have z2 : True := trivial
  go_wp2_with (at_builtin; refine wpList_app_free rfl (.tmp 33) (.tmp 35) rfl w3.heap.size fv S.fl i rfl (HR3.out.free.alloc _) rfl (heap_alloc_new w3 _) HFL.out ?_; intro A' c' w4 ho4 hg4 hl4; have HF := Lib.hid ((HR3.out.alloc (.cells #[.int .i64 (i : Nat)] 3)).newFree hg4 ho4 hl4); have k4 : w4.cell? ⟨g, 3, none⟩ = some fv := HF.out.2.2.2.1; have f4 : w4.frozen? ⟨g, 3, none⟩ = false := HF.out.2.2.2.2; clear ho4 hg4 hl4 z2)
  go_ret
  refine ⟨rfl, _, HS.out ▸ HF.out.1, (HC3.out.alloc _).trans HF.out.2.1, fun b hb => ?_⟩
  rcases HF.out.2.2.1 b hb with h | h
  · exact .inl h
  · exact .inr (Nat.le_trans HC3.out.size (Nat.le_trans (by simp) h))
end Go.Proofs.Ytnipmhidiiondaa
