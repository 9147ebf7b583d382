/- The document's sum of all waits; both where the policy may not be. -/
import Derived.Test.YticcicdbncmfbaaTot
namespace Go.Proofs.Yticcicdbncmfbaa
open Go.RowKit

theorem refTotal_ok (f c n d most : Nat) (S : Int) (A : Option Addr) (L K : Nat) (w : World) (hM : May f c n d most S L) (hc : c < 9223372036854775808) :
    Calls Try.prog 13 #[.agg #[.int .i64 (f : Nat), .int .i64 (c : Nat), .int .i64 (n : Nat), .int .i64 (d : Nat), .int .i64 (most : Nat), .int .i64 S, .slice A L K]] w fun e w' => e = .returned (.tuple #[.int .i64 (satN (tsum c n d f (most - 1)) : Nat), .int .i64 0]) ∧ Below w.heap.size w w' := by
  have hL : L ≤ 100 := by obtain ⟨_, _, _, _, _, _, _, _, _, h⟩ := hM; omega
  have hn : n ≤ 1000 := by obtain ⟨_, _, _, _, h, _⟩ := hM; omega
  have hd : 1 ≤ d := by obtain ⟨_, _, h, _⟩ := hM; omega
  have hdn : d ≤ n := by obtain ⟨_, _, _, h, _⟩ := hM; omega
  have hf : f ≤ c := by obtain ⟨_, h, _⟩ := hM; omega
  have hm1 : 1 ≤ most := by obtain ⟨_, _, _, _, _, h, _⟩ := hM; omega
  have hm2 : most ≤ 1000 := by obtain ⟨_, _, _, _, _, _, h, _⟩ := hM; omega
  have HM := Lib.hid hM
  clear hM
  go_enter Try.func13, Try.ntmps13
  go_wp2_with fail
  refine (may_any f c n d most S A L K _ (by omega)).mono ?_
  rintro e w1 ⟨rfl, hb1⟩
  rw [decide_eq_true HM.out]
  have hx1 : Blk w1 w.heap.size 24 #[.int .i64 (f : Nat), .int .i64 (c : Nat), .int .i64 (n : Nat), .int .i64 (d : Nat), .int .i64 (most : Nat), .int .i64 S, .slice A L K] := (Blk.new w 24 _).below hb1 (by simp)
  have hB1 : Below w.heap.size w w1 := ((Below.refl _ _).alloc (Nat.le_refl _) _).trans (hb1.mono (by simp))
  have hcf : w1.cell? ⟨w.heap.size, 0, none⟩ = some (.int .i64 f) := hx1.cell 0
  have hsz : w.heap.size < w1.heap.size := by have := hb1.size; simp at this; omega
  clear hb1
  go_wp2_with fail
  go_loopw [4, 5, 6] (fun s v i wr => ∃ k : Nat, k + 1 ≤ most ∧ i = .int .i64 (k + 1 : Nat) ∧ s = .int .i64 (satN (tsum c n d f k) : Nat) ∧ v = .int .i64 (wseq c n d f k : Nat) ∧ Below w.heap.size w wr ∧ Blk wr w.heap.size 24 #[.int .i64 (f : Nat), .int .i64 (c : Nat), .int .i64 (n : Nat), .int .i64 (d : Nat), .int .i64 (most : Nat), .int .i64 S, .slice A L K] ∧ w.heap.size < wr.heap.size) (fun _ _ i _ => most - (intOf i).toNat)
  case atStart => exact ⟨0, hm1, rfl, rfl, rfl, hB1, hx1, hsz⟩
  case round =>
    obtain ⟨k, hk, rfl, rfl, rfl, hB, hX, hsz2⟩ := hrel
    clear hB1 hx1 hcf hsz
    have hx := wseq_le (n := n) (d := d) hf k
    have HS := Lib.hid (show wseq c n d f (k + 1) = nextN c n d (wseq c n d f k) from rfl)
    have HT := Lib.hid (show satN (tsum c n d f (k + 1)) = satN (satN (tsum c n d f k) + wseq c n d f k) by rw [satN_add]; rfl)
    have hsl := satN_lt (tsum c n d f k)
    obtain ⟨x, hxe⟩ : ∃ x, x = wseq c n d f k := ⟨_, rfl⟩
    obtain ⟨s, hse⟩ : ∃ s, s = satN (tsum c n d f k) := ⟨_, rfl⟩
    rw [← hxe] at hx HS HT ⊢
    rw [← hse] at HT hsl ⊢
    have HSE := Lib.hid hse
    have hcm : wr.cell? ⟨w.heap.size, 4, none⟩ = some (.int .i64 most) := hX.cell 4
    have HB := Lib.hid hB
    have HX := Lib.hid hX
    clear hxe hse hB hX
    by_cases hlt : k + 1 < most
    · go_wp2_with fail
      refine (refAdd_any s x hsl (by omega) wr).mono ?_
      rintro e w2 ⟨rfl, hb2⟩
      rw [← HT.out]
      have HB2 := Lib.hid (HB.out.trans (hb2.mono HB.out.size))
      have HX2 := Lib.hid (HX.out.below hb2 hsz2)
      have hsz3 : w.heap.size < w2.heap.size := Nat.lt_of_lt_of_le hsz2 hb2.size
      clear hb2 hcm
      go_wp2_with (refine wpList_load_row rfl 24 _ rfl w.heap.size rfl 24 _ (0, 0) _ HX2.out Try.underlying24 rfl (by kernel_rfl) ?_)
      refine (next_any f most S c n d A L K x w2 hn hd hdn hc (by omega)).mono ?_
      rintro e w3 ⟨rfl, hb3⟩
      rw [← HS.out]
      have HB3 := Lib.hid (HB2.out.trans (hb3.mono HB2.out.size))
      have HX3 := Lib.hid (HX2.out.below hb3 hsz3)
      have hsz4 : w.heap.size < w3.heap.size := Nat.lt_of_lt_of_le hsz3 hb3.size
      clear hb3
      go_wp2_with fail
      go_roundw
      case rel => exact ⟨k + 1, by omega, by go_num, rfl, rfl, HB3.out, HX3.out, hsz4⟩
      case measure => simp [intOf]; omega
    · have hk2 : most - 1 = k := by omega
      have HV := Lib.hid (show satN (tsum c n d f (most - 1)) = s by rw [hk2, HSE.out])
      have hle : most ≤ k + 1 := by omega
      go_wp2_with fail
      go_ret2
      exact ⟨by rw [HV.out]; rfl, HB.out⟩

theorem total_bad (F C N D M S : Int) (A : Option Addr) (L K : Nat) (w : World) (hL : L ≤ 9223372036854775807) (hM : ¬ May F C N D M S L) :
    Calls Try.prog 12 #[.agg #[.int .i64 F, .int .i64 C, .int .i64 N, .int .i64 D, .int .i64 M, .int .i64 S, .slice A L K]] w fun e w' => e = .returned (.tuple #[.int .i64 0, .int .i64 1]) ∧ Below w.heap.size w w' := by
  go_enter Try.func12, Try.ntmps12
  go_wp2_with fail
  refine (check_any F C N D M S A L K _ hL).mono ?_
  rintro e w1 ⟨rfl, hb1⟩
  rw [err_no hM]
  have HB1 := Lib.hid (show Below w.heap.size w w1 from ((Below.refl _ _).alloc (Nat.le_refl _) _).trans (hb1.mono (by simp)))
  clear hb1
  go_wp2_with fail
  go_ret2
  exact ⟨rfl, HB1.out⟩

theorem refTotal_bad (F C N D M S : Int) (A : Option Addr) (L K : Nat) (w : World) (hL : L ≤ 9223372036854775807) (hM : ¬ May F C N D M S L) :
    Calls Try.prog 13 #[.agg #[.int .i64 F, .int .i64 C, .int .i64 N, .int .i64 D, .int .i64 M, .int .i64 S, .slice A L K]] w fun e w' => e = .returned (.tuple #[.int .i64 0, .int .i64 1]) ∧ Below w.heap.size w w' := by
  go_enter Try.func13, Try.ntmps13
  go_wp2_with fail
  refine (may_any F C N D M S A L K _ hL).mono ?_
  rintro e w1 ⟨rfl, hb1⟩
  rw [decide_eq_false hM]
  have HB1 := Lib.hid (show Below w.heap.size w w1 from ((Below.refl _ _).alloc (Nat.le_refl _) _).trans (hb1.mono (by simp)))
  clear hb1
  go_wp2_with fail
  go_ret2
  exact ⟨rfl, HB1.out⟩

end Go.Proofs.Yticcicdbncmfbaa
