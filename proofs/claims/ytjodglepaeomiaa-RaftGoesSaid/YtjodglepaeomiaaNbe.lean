/- Contract of the law's begin. -/
import Derived.Test.YtjodglepaeomiaaNas
import Derived.Test.YtjodglepaeomiaaNdo
namespace Go.Proofs.Ytjodglepaeomiaa
open Go.RowKit

theorem nxinfo22 : (Try.prog.info? 22).map (fun i => (i.zero, i.size, i.bytes)) = some (some (.pointer none), 1, 8) := by kernel_rfl
theorem nxunder48 : Try.prog.underlying 48 = some (.slice 22) := by kernel_rfl
def seen0 : Seen := ⟨[], List.replicate 7 0, [], [], 5000⟩
def nv0 : Nv := ⟨none, 0, none, 0, none, 0, none, 0, none, 0⟩
theorem NetM.empty {w : World} {g : Nat} (h : Blk w g 54 (netCells nv0 0 0 seen0).toArray) : NetM w g g (fun b => b = g) [] [] seen0 nv0 :=
  ⟨rfl, fun b hb => by rw [hb]; exact ⟨Nat.le_refl _, h.lt⟩, h, rfl, World.ownsRow_nil _ _ _ _, (fun g hg => by simp [nv0, Value.ownBlock] at hg), .nil _ _ _ _, (fun x hx => by cases hx), World.ownsRow_nil _ _ _ _, (fun g hg => by simp [nv0, Value.ownBlock] at hg), World.ownsRow_nil _ _ _ _, (fun g hg => by simp [nv0, Value.ownBlock] at hg), World.ownsRow_nil _ _ _ _, (fun g hg => by simp [nv0, Value.ownBlock] at hg), .nil _ _⟩
def Begun (w : World) (n : Nat) (w' : World) : Prop :=
  ∃ X ps v, Up w' w.heap.size w.heap.size n 0 X ps [] seen0 v ∧ Chg (fun b => w.heap.size ≤ b) w w'
set_option maxRecDepth 100000 in
set_option maxHeartbeats 8000000 in
theorem begin_any {w : World} {n : Nat} (hn1 : 1 ≤ n) (hn7 : n ≤ 7) :
    Calls Try.prog 49 #[.int .i64 (n : Nat)] w fun e w' => e = .returned (.tuple #[.pointer (some ⟨w.heap.size, 0, none⟩), .bool true]) ∧ Begun w n w' := by
  have HB0 : Hid (Below w.heap.size w (w.alloc (.cells (netCells nv0 0 0 seen0).toArray 54)) ∧ Blk (w.alloc (.cells (netCells nv0 0 0 seen0).toArray 54)) w.heap.size 54 (netCells nv0 0 0 seen0).toArray) := Lib.hid ⟨(Below.refl _ w).alloc (Nat.le_refl _) _, Blk.new _ _ _⟩
  go_enter Try.func49, Try.ntmps49
  go_upto_region 2 with fail
  change Code.wp _ _ _ _ (w.alloc (.cells (netCells nv0 0 0 seen0).toArray 54))
  generalize w.alloc (.cells (netCells nv0 0 0 seen0).toArray 54) = w0 at *
  obtain ⟨gN, hgN⟩ : ∃ z, z = w.heap.size := ⟨_, rfl⟩
  have HG := Lib.hid hgN
  rw [← hgN] at HB0 ⊢
  clear hgN
  go_wp2_with fail
  go_loopw [5] (fun s5 wr => ∃ i : Nat, s5 = .int .i64 (i : Nat) ∧ i ≤ n ∧ ∃ X ps v, NetM wr gN gN X ps [] seen0 v ∧ ps.length = i ∧ ps.map (·.2) = (List.range i).map (fun j => Sv.begin_ j n 0 (-1) []) ∧ Chg (fun b => gN ≤ b) w wr) (fun s5 _ => n - (intOf s5).toNat)
  case atStart => exact ⟨0, rfl, by omega, _, [], nv0, NetM.empty HB0.out.2, rfl, rfl, .of_below (by rw [← HG.out]; exact HB0.out.1)⟩
  case round =>
    clear HB0
    obtain ⟨i, rfl, hi, X, ps, v, hN, hpl, hps, hch⟩ := hrel
    by_cases hlt : i < n
    · have di : decide ((i : Int) < (n : Int)) = true := decide_eq_true (by omega)
      have HN := Lib.hid hN
      have HPS := Lib.hid (And.intro hpl (And.intro hps hch))
      have HNW := Lib.hid (new_any (i : Nat) (n : Nat) 0 (-1) [] none 0 wr (.inl rfl) (by simp) (fun _ => rfl))
      clear hN hpl hps hch
      go_wp2_with fail
      refine HNW.out.mono ?_
      intro e w2 hn2
      obtain ⟨g', A2, c2, rfl, hg2, hA2, hm2, hb2⟩ := new_fine hn2 hn7 hlt (by rfl)
      have HS2 : Hid (SvM w2 g' (Sv.begin_ i n 0 (-1) []) A2 c2 ∧ (∀ b, SvT g' A2 b → wr.heap.size ≤ b) ∧ Below wr.heap.size wr w2) := Lib.hid ⟨hm2, fun b hb => by
        rcases hb with rfl | ⟨a, ha, rfl⟩
        · exact hg2
        · exact hA2 a ha, hb2⟩
      have c0 := (HN.out.below hb2).c0
      rw [HPS.out.1] at c0
      have H3 : Hid (Below w2.heap.size w2 (w2.alloc (.cells #[.pointer (some ⟨g', 0, none⟩)] 22)) ∧ Blk (w2.alloc (.cells #[.pointer (some ⟨g', 0, none⟩)] 22)) w2.heap.size 22 #[.pointer (some ⟨g', 0, none⟩)]) := Lib.hid ⟨(Below.refl _ _).alloc (Nat.le_refl _) _, Blk.new _ _ _⟩
      have HO : Hid ((w2.alloc (.cells #[.pointer (some ⟨g', 0, none⟩)] 22)).ownsRow 0 22 1 (.slice v.Al i v.cl) i (rowOf pcell' ps)) := by rw [← HPS.out.1]; exact Lib.hid (own_below (HN.out.below hb2).l H3.out.1)
      obtain ⟨i2, hi2, hz2, hz3, hz4⟩ := info_parts nxinfo22
      clear hn2 hg2 hA2 hm2 hb2 HNW
      go_wp2_with (first | (at_builtin; generalize w2.alloc (.cells #[.pointer (some ⟨g', 0, none⟩)] 22) = w3 at *; refine wpList_append_any _ rfl (.tmp 33) (.tmp 35) 48 rfl 0 22 i2 (.pointer none) 1 8 nxunder48 hi2 hz2 hz3 hz4 rfl (by decide) (.slice v.Al i v.cl) i (rowOf pcell' ps) rfl HO.out w3.heap.size (some ⟨w2.heap.size, 0, none⟩) 1 1 [.pointer (some ⟨g', 0, none⟩)] rfl (reads_one H3.out.2 H3.out.2.lt) (by simp [Value.oneCell']) (by unfold maxLen; omega) (by omega) (Nat.zero_le _) ?_; intro v1 w4 ho1 hg1 ha1; obtain ⟨A4, c4, rfl, _⟩ := own_form ho1; have H4 := Lib.hid (And.intro ho1 (And.intro hg1 ha1)); clear ho1 hg1 ha1; have H5 : Hid _ := Lib.hid (HN.out.addSrv (w1 := w4) (A' := A4) (c' := c4) (HS2.out.2.2.trans (H3.out.1.mono HS2.out.2.2.size)) (HS2.out.1.below H3.out.1) HS2.out.2.1 (by rw [HPS.out.1, rowOf_append]; exact H4.out.1) (by rw [HPS.out.1]; exact H4.out.2.1) (by rw [HPS.out.1]; exact H4.out.2.2)); rw [HPS.out.1] at H5; have d1 := H5.out.1.1; have f1 := H5.out.1.2) | fail)
      go_roundw
      case rel => exact ⟨i + 1, by go_num, by omega, _, ps ++ [(g', Sv.begin_ i n 0 (-1) [])], _, H5.out.2.1, by simp [HPS.out.1], by rw [List.map_append, HPS.out.2.1, List.range_succ, List.map_append]; rfl, HPS.out.2.2.trans H5.out.2.2⟩
      case measure => simp [intOf]; omega
    · have di : decide ((i : Int) < (n : Int)) = false := decide_eq_false (by omega)
      have hin : i = n := by omega
      subst hin
      go_wp2_with fail
      go_ret2
      exact ⟨by rw [← HG.out]; rfl, X, ps, v, ⟨by rw [← HG.out]; exact hN, by rw [hps]; exact Sys.start hn1 hn7, fun x hx => by cases hx⟩, by rw [← HG.out]; exact hch⟩
end Go.Proofs.Ytjodglepaeomiaa
