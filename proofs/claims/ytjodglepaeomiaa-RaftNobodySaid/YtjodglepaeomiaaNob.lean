/- RaftNobody's walk. -/
import Derived.Test.YtjodglepaeomiaaOpn
namespace Go.Proofs.Ytjodglepaeomiaa
open Go.RowKit

def zeroSv : Array Value := #[.int .i64 0, .int .i64 0, .int .i64 0, .int .i64 0, .slice none 0 0, .int .u8 0, .int .i64 0, .int .i64 0, .int .u64 0, .int .i64 0, .int .i64 0, .int .i64 0, .int .i64 0, .int .i64 0, .int .i64 0, .int .i64 0, .int .i64 0, .int .i64 0, .int .i64 0, .int .i64 0, .int .i64 0, .int .i64 0, .int .i64 0]
set_option maxRecDepth 100000 in
set_option maxHeartbeats 8000000 in
theorem nobody_walk (cs : Array Value) (d : ByteArray) (w : World) (hcs : cs.size = 9) (hc1 : cs.all (·.oneCell') = true) :
    Calls Try.prog 7 #[.agg cs, .string d] w fun e w' => e = .returned (.bool true) ∧ Below w.heap.size w w' := by
  have HC := Lib.hid (And.intro hcs hc1)
  have HB0 : Hid (Below w.heap.size w (w.alloc (.cells cs 34)) ∧ Blk (w.alloc (.cells cs 34)) w.heap.size 34 cs) := Lib.hid ⟨(Below.refl _ w).alloc (Nat.le_refl _) _, Blk.new _ _ _⟩
  have hsz0 : (w.alloc (.cells cs 34)).heap.size = w.heap.size + 1 := by simp
  have hz1 : ((w.alloc (.cells cs 34)).alloc (.cells #[.int .i64 0, .int .i64 0, .int .i64 0, .int .i64 0, .slice none 0 0, .int .u8 0, .int .i64 0, .int .i64 0, .int .u64 0, .int .i64 0, .int .i64 0, .int .i64 0, .int .i64 0, .int .i64 0, .int .i64 0, .int .i64 0, .int .i64 0, .int .i64 0, .int .i64 0, .int .i64 0, .int .i64 0, .int .i64 0, .int .i64 0] 74)).heap.size = w.heap.size + 1 + 1 := by simp
  have HW : Hid (Below w.heap.size w (((w.alloc (.cells cs 34)).alloc (.cells #[.int .i64 0, .int .i64 0, .int .i64 0, .int .i64 0, .slice none 0 0, .int .u8 0, .int .i64 0, .int .i64 0, .int .u64 0, .int .i64 0, .int .i64 0, .int .i64 0, .int .i64 0, .int .i64 0, .int .i64 0, .int .i64 0, .int .i64 0, .int .i64 0, .int .i64 0, .int .i64 0, .int .i64 0, .int .i64 0, .int .i64 0] 74)).alloc (.cells #[.pointer none, .pointer (some ⟨w.heap.size + 1, 0, none⟩)] 75)) ∧ (((w.alloc (.cells cs 34)).alloc (.cells #[.int .i64 0, .int .i64 0, .int .i64 0, .int .i64 0, .slice none 0 0, .int .u8 0, .int .i64 0, .int .i64 0, .int .u64 0, .int .i64 0, .int .i64 0, .int .i64 0, .int .i64 0, .int .i64 0, .int .i64 0, .int .i64 0, .int .i64 0, .int .i64 0, .int .i64 0, .int .i64 0, .int .i64 0, .int .i64 0, .int .i64 0] 74)).alloc (.cells #[.pointer none, .pointer (some ⟨w.heap.size + 1, 0, none⟩)] 75)).heap[w.heap.size]? = some (.cells cs 34 (0, 0)) ∧ Blk (((w.alloc (.cells cs 34)).alloc (.cells #[.int .i64 0, .int .i64 0, .int .i64 0, .int .i64 0, .slice none 0 0, .int .u8 0, .int .i64 0, .int .i64 0, .int .u64 0, .int .i64 0, .int .i64 0, .int .i64 0, .int .i64 0, .int .i64 0, .int .i64 0, .int .i64 0, .int .i64 0, .int .i64 0, .int .i64 0, .int .i64 0, .int .i64 0, .int .i64 0, .int .i64 0] 74)).alloc (.cells #[.pointer none, .pointer (some ⟨w.heap.size + 1, 0, none⟩)] 75)) (w.heap.size + 1) 74 #[.int .i64 0, .int .i64 0, .int .i64 0, .int .i64 0, .slice none 0 0, .int .u8 0, .int .i64 0, .int .i64 0, .int .u64 0, .int .i64 0, .int .i64 0, .int .i64 0, .int .i64 0, .int .i64 0, .int .i64 0, .int .i64 0, .int .i64 0, .int .i64 0, .int .i64 0, .int .i64 0, .int .i64 0, .int .i64 0, .int .i64 0] ∧ Blk (((w.alloc (.cells cs 34)).alloc (.cells #[.int .i64 0, .int .i64 0, .int .i64 0, .int .i64 0, .slice none 0 0, .int .u8 0, .int .i64 0, .int .i64 0, .int .u64 0, .int .i64 0, .int .i64 0, .int .i64 0, .int .i64 0, .int .i64 0, .int .i64 0, .int .i64 0, .int .i64 0, .int .i64 0, .int .i64 0, .int .i64 0, .int .i64 0, .int .i64 0, .int .i64 0] 74)).alloc (.cells #[.pointer none, .pointer (some ⟨w.heap.size + 1, 0, none⟩)] 75)) (w.heap.size + 1 + 1) 75 #[.pointer none, .pointer (some ⟨w.heap.size + 1, 0, none⟩)] ∧ (((w.alloc (.cells cs 34)).alloc (.cells #[.int .i64 0, .int .i64 0, .int .i64 0, .int .i64 0, .slice none 0 0, .int .u8 0, .int .i64 0, .int .i64 0, .int .u64 0, .int .i64 0, .int .i64 0, .int .i64 0, .int .i64 0, .int .i64 0, .int .i64 0, .int .i64 0, .int .i64 0, .int .i64 0, .int .i64 0, .int .i64 0, .int .i64 0, .int .i64 0, .int .i64 0] 74)).alloc (.cells #[.pointer none, .pointer (some ⟨w.heap.size + 1, 0, none⟩)] 75)).heap.size = w.heap.size + 3) := by
    have h1 := Blk.new (w.alloc (.cells cs 34)) 74 #[.int .i64 0, .int .i64 0, .int .i64 0, .int .i64 0, .slice none 0 0, .int .u8 0, .int .i64 0, .int .i64 0, .int .u64 0, .int .i64 0, .int .i64 0, .int .i64 0, .int .i64 0, .int .i64 0, .int .i64 0, .int .i64 0, .int .i64 0, .int .i64 0, .int .i64 0, .int .i64 0, .int .i64 0, .int .i64 0, .int .i64 0]
    rw [hsz0] at h1
    have h2 := Blk.new ((w.alloc (.cells cs 34)).alloc (.cells #[.int .i64 0, .int .i64 0, .int .i64 0, .int .i64 0, .slice none 0 0, .int .u8 0, .int .i64 0, .int .i64 0, .int .u64 0, .int .i64 0, .int .i64 0, .int .i64 0, .int .i64 0, .int .i64 0, .int .i64 0, .int .i64 0, .int .i64 0, .int .i64 0, .int .i64 0, .int .i64 0, .int .i64 0, .int .i64 0, .int .i64 0] 74)) 75 #[.pointer none, .pointer (some ⟨w.heap.size + 1, 0, none⟩)]
    rw [hz1] at h2
    exact Lib.hid ⟨(HB0.out.1.alloc HB0.out.1.size _).alloc (by rw [hz1]; omega) _, (HB0.out.2.alloc _).alloc _, h1.alloc _, h2, by simp⟩
  clear HB0 hsz0 hz1
  go_enter Try.func7, Try.ntmps7
  go_wp2_with fail
  generalize (((w.alloc (.cells cs 34)).alloc (.cells #[.int .i64 0, .int .i64 0, .int .i64 0, .int .i64 0, .slice none 0 0, .int .u8 0, .int .i64 0, .int .i64 0, .int .u64 0, .int .i64 0, .int .i64 0, .int .i64 0, .int .i64 0, .int .i64 0, .int .i64 0, .int .i64 0, .int .i64 0, .int .i64 0, .int .i64 0, .int .i64 0, .int .i64 0, .int .i64 0, .int .i64 0] 74)).alloc (.cells #[.pointer none, .pointer (some ⟨w.heap.size + 1, 0, none⟩)] 75)) = w3 at *
  have HN : Hid (∀ W, Below w3.heap.size w3 W → W.heap[w.heap.size]? = some (.cells cs 34 (0, 0)) ∧ Nobody W none ∧ Nobody W (some ⟨w.heap.size + 1, 0, none⟩) ∧ W.cell? ⟨w.heap.size + 1 + 1, 0, none⟩ = some (.pointer none) ∧ W.cell? ⟨w.heap.size + 1 + 1, 1, none⟩ = some (.pointer (some ⟨w.heap.size + 1, 0, none⟩))) := Lib.hid (fun W hW => by
    have h3 := HW.out.2.2.2.2
    have hb := HW.out.2.2.1.below hW (by omega)
    exact ⟨(hW.block _ (by omega)).trans HW.out.2.1, .inl rfl, .inr ⟨_, rfl, hb.cell 1, hb.lt⟩, (HW.out.2.2.2.1.below hW (by omega)).cell 0, (HW.out.2.2.2.1.below hW (by omega)).cell 1⟩)
  have hcs := HC.out.1
  go_loopw [8] (fun s8 wr => ∃ k : Nat, s8 = .int .i64 (k : Nat) ∧ k ≤ 2 ∧ Below w3.heap.size w3 wr) (fun s8 _ => 2 - (intOf s8).toNat)
  case atStart => exact ⟨0, rfl, by omega, Below.refl _ _⟩
  case round =>
    obtain ⟨k, rfl, hk, hb⟩ := hrel
    have HB := Lib.hid hb
    clear hb
    rcases (show k = 0 ∨ k = 1 ∨ k = 2 by omega) with rfl | rfl | rfl
    · have y := (HN.out wr HB.out).2.2.2.1
      have HP := Lib.hid (fun W (hW : Below w3.heap.size w3 W) => (HN.out W hW).2.1)
      go_wp2_with fail
      refine ((HP.out wr HB.out).propose d).mono ?_
      rintro e w1 ⟨rfl, hw1⟩
      rw [hw1]
      clear hw1 w1
      go_wp2_with fail
      refine ((HP.out wr HB.out).saved).mono ?_
      rintro e w1 ⟨A1, c1, rfl, ho1, hb1⟩
      have H1 : Hid (Below w3.heap.size w3 w1) := Lib.hid (HB.out.trans (hb1.mono HB.out.size))
      clear ho1 hb1
      go_wp2_with fail
      have HA : Hid (Below w3.heap.size w3 (w1.alloc (.cells #[.int .i64 0, .int .i64 0, .slice A1 0 c1] 29)) ∧ Blk (w1.alloc (.cells #[.int .i64 0, .int .i64 0, .slice A1 0 c1] 29)) w1.heap.size 29 #[.int .i64 0, .int .i64 0, .slice A1 0 c1]) := Lib.hid ⟨H1.out.alloc H1.out.size _, Blk.new _ _ _⟩
      generalize w1.alloc (.cells #[.int .i64 0, .int .i64 0, .slice A1 0 c1] 29) = wa at *
      refine ((HP.out wa HA.out.1).tick).mono ?_
      rintro e w2 ⟨rfl, hb2⟩
      have H2 : Hid (Below w3.heap.size w3 w2 ∧ Blk w2 w1.heap.size 29 #[.int .i64 0, .int .i64 0, .slice A1 0 c1]) := Lib.hid ⟨HA.out.1.trans (hb2.mono HA.out.1.size), HA.out.2.below hb2 HA.out.2.lt⟩
      clear hb2
      go_wp2_with (first | (refine BigFrame.wpList_want rfl fun K hK => wp_load_row 34 _ rfl w.heap.size rfl 34 cs (0, 0) _ (HN.out w2 H2.out.1).1 Try.underlying34 rfl (by rw [hcs]; kernel_rfl) (hK _ _ ?_)) | fail)
      refine ((HP.out w2 H2.out.1).handle cs HC.out.1 HC.out.2).mono ?_
      rintro e w4 ⟨rfl, hb4⟩
      have H4 : Hid (Below w3.heap.size w3 w4 ∧ Blk w4 w1.heap.size 29 #[.int .i64 0, .int .i64 0, .slice A1 0 c1]) := Lib.hid ⟨H2.out.1.trans (hb4.mono H2.out.1.size), H2.out.2.below hb4 H2.out.2.lt⟩
      clear hb4
      have y0 : w4.cell? ⟨w1.heap.size, 0, none⟩ = some (.int .i64 0) := H4.out.2.cell 0
      have y1 : w4.cell? ⟨w1.heap.size, 1, none⟩ = some (.int .i64 0) := H4.out.2.cell 1
      have y2 : w4.cell? ⟨w1.heap.size, 2, none⟩ = some (.slice A1 0 c1) := H4.out.2.cell 2
      go_wp2_with fail
      refine ((HP.out w4 H4.out.1).log).mono ?_
      rintro e w5 ⟨A5, c5, rfl, ho5, hb5⟩
      have H5 : Hid (Below w3.heap.size w3 w5) := Lib.hid (H4.out.1.trans (hb5.mono H4.out.1.size))
      clear ho5 hb5
      have HT1 := Lib.hid (Term_nil w5)
      have HT2 := Lib.hid (Vote_nil w5)
      have HT3 := Lib.hid (Commit_nil w5)
      have HT4 := Lib.hid (Role_nil w5)
      have HT5 := Lib.hid (Leader_nil w5)
      have HT6 := Lib.hid ((HP.out w5 H5.out).twin)
      go_wp2_with (first | ((with_reducible refine HT1.out.mono ?_); rintro e w6 ⟨rfl, hw6⟩; rw [hw6]; clear hw6 w6) | ((with_reducible refine HT2.out.mono ?_); rintro e w6 ⟨rfl, hw6⟩; rw [hw6]; clear hw6 w6) | ((with_reducible refine HT3.out.mono ?_); rintro e w6 ⟨rfl, hw6⟩; rw [hw6]; clear hw6 w6) | ((with_reducible refine HT4.out.mono ?_); rintro e w6 ⟨rfl, hw6⟩; rw [hw6]; clear hw6 w6) | ((with_reducible refine HT5.out.mono ?_); rintro e w6 ⟨rfl, hw6⟩; rw [hw6]; clear hw6 w6) | ((with_reducible refine HT6.out.mono ?_); rintro e w6 ⟨rfl, hw6⟩; rw [hw6]; clear hw6 w6) | fail)
      go_roundw
      case rel => exact ⟨1, by go_num, by omega, H5.out⟩
      case measure => simp [intOf]
    · have y := (HN.out wr HB.out).2.2.2.2
      have HP := Lib.hid (fun W (hW : Below w3.heap.size w3 W) => (HN.out W hW).2.2.1)
      go_wp2_with fail
      refine ((HP.out wr HB.out).propose d).mono ?_
      rintro e w1 ⟨rfl, hw1⟩
      rw [hw1]
      clear hw1 w1
      go_wp2_with fail
      refine ((HP.out wr HB.out).saved).mono ?_
      rintro e w1 ⟨A1, c1, rfl, ho1, hb1⟩
      have H1 : Hid (Below w3.heap.size w3 w1) := Lib.hid (HB.out.trans (hb1.mono HB.out.size))
      clear ho1 hb1
      go_wp2_with fail
      have HA : Hid (Below w3.heap.size w3 (w1.alloc (.cells #[.int .i64 0, .int .i64 0, .slice A1 0 c1] 29)) ∧ Blk (w1.alloc (.cells #[.int .i64 0, .int .i64 0, .slice A1 0 c1] 29)) w1.heap.size 29 #[.int .i64 0, .int .i64 0, .slice A1 0 c1]) := Lib.hid ⟨H1.out.alloc H1.out.size _, Blk.new _ _ _⟩
      generalize w1.alloc (.cells #[.int .i64 0, .int .i64 0, .slice A1 0 c1] 29) = wa at *
      refine ((HP.out wa HA.out.1).tick).mono ?_
      rintro e w2 ⟨rfl, hb2⟩
      have H2 : Hid (Below w3.heap.size w3 w2 ∧ Blk w2 w1.heap.size 29 #[.int .i64 0, .int .i64 0, .slice A1 0 c1]) := Lib.hid ⟨HA.out.1.trans (hb2.mono HA.out.1.size), HA.out.2.below hb2 HA.out.2.lt⟩
      clear hb2
      go_wp2_with (first | (refine BigFrame.wpList_want rfl fun K hK => wp_load_row 34 _ rfl w.heap.size rfl 34 cs (0, 0) _ (HN.out w2 H2.out.1).1 Try.underlying34 rfl (by rw [hcs]; kernel_rfl) (hK _ _ ?_)) | fail)
      refine ((HP.out w2 H2.out.1).handle cs HC.out.1 HC.out.2).mono ?_
      rintro e w4 ⟨rfl, hb4⟩
      have H4 : Hid (Below w3.heap.size w3 w4 ∧ Blk w4 w1.heap.size 29 #[.int .i64 0, .int .i64 0, .slice A1 0 c1]) := Lib.hid ⟨H2.out.1.trans (hb4.mono H2.out.1.size), H2.out.2.below hb4 H2.out.2.lt⟩
      clear hb4
      have y0 : w4.cell? ⟨w1.heap.size, 0, none⟩ = some (.int .i64 0) := H4.out.2.cell 0
      have y1 : w4.cell? ⟨w1.heap.size, 1, none⟩ = some (.int .i64 0) := H4.out.2.cell 1
      have y2 : w4.cell? ⟨w1.heap.size, 2, none⟩ = some (.slice A1 0 c1) := H4.out.2.cell 2
      go_wp2_with fail
      refine ((HP.out w4 H4.out.1).log).mono ?_
      rintro e w5 ⟨A5, c5, rfl, ho5, hb5⟩
      have H5 : Hid (Below w3.heap.size w3 w5) := Lib.hid (H4.out.1.trans (hb5.mono H4.out.1.size))
      clear ho5 hb5
      have HZ : Hid (w5.cell? ⟨w.heap.size + 1, 1, none⟩ = some (.int .i64 0)) := by
        rcases (HP.out w5 H5.out) with h | ⟨b, h1, h2, _⟩
        · cases h
        · have h1 := Option.some.inj h1
          injection h1 with h1
          rw [h1]
          exact Lib.hid h2
      have HT1 := Lib.hid (Term_zero w5 (w.heap.size + 1) HZ.out)
      have HT2 := Lib.hid (Vote_zero w5 (w.heap.size + 1) HZ.out)
      have HT3 := Lib.hid (Commit_zero w5 (w.heap.size + 1) HZ.out)
      have HT4 := Lib.hid (Role_zero w5 (w.heap.size + 1) HZ.out)
      have HT5 := Lib.hid (Leader_zero w5 (w.heap.size + 1) HZ.out)
      have HT6 := Lib.hid ((HP.out w5 H5.out).twin)
      go_wp2_with (first | ((with_reducible refine HT1.out.mono ?_); rintro e w6 ⟨rfl, hw6⟩; rw [hw6]; clear hw6 w6) | ((with_reducible refine HT2.out.mono ?_); rintro e w6 ⟨rfl, hw6⟩; rw [hw6]; clear hw6 w6) | ((with_reducible refine HT3.out.mono ?_); rintro e w6 ⟨rfl, hw6⟩; rw [hw6]; clear hw6 w6) | ((with_reducible refine HT4.out.mono ?_); rintro e w6 ⟨rfl, hw6⟩; rw [hw6]; clear hw6 w6) | ((with_reducible refine HT5.out.mono ?_); rintro e w6 ⟨rfl, hw6⟩; rw [hw6]; clear hw6 w6) | ((with_reducible refine HT6.out.mono ?_); rintro e w6 ⟨rfl, hw6⟩; rw [hw6]; clear hw6 w6) | fail)
      go_roundw
      case rel => exact ⟨2, by go_num, by omega, H5.out⟩
      case measure => simp [intOf]
    · have HA := Lib.hid (awake_any wr)
      go_wp2_with fail
      refine HA.out.mono ?_
      rintro e w6 ⟨rfl, hb6⟩
      have H6 : Hid (Below w.heap.size w w6) := Lib.hid (HW.out.1.trans ((HB.out.mono (by have := HW.out.2.2.2.2; omega)).trans (hb6.mono (by have := HB.out.size; have := HW.out.2.2.2.2; omega))))
      clear hb6
      go_wp2_with fail
      go_ret
      exact ⟨rfl, H6.out⟩
end Go.Proofs.Ytjodglepaeomiaa
