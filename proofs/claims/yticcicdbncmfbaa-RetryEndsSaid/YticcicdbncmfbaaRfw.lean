/- The document's wait; an example; awake. -/
import Derived.Test.YticcicdbncmfbaaWai
namespace Go.Proofs.Yticcicdbncmfbaa
open Go.RowKit

theorem wait_bad (F C N D M S : Int) (A : Option Addr) (L K : Nat) (at_ : Int) (w : World) (hL : L ≤ 9223372036854775807) (hM : ¬ (May F C N D M S L ∧ 1 ≤ at_)) :
    Calls Try.prog 10 #[.agg #[.int .i64 F, .int .i64 C, .int .i64 N, .int .i64 D, .int .i64 M, .int .i64 S, .slice A L K], .int .i64 at_] w fun e w' => e = .returned (.tuple #[.int .i64 0, .int .i64 1]) ∧ Below w.heap.size w w' := by
  by_cases hm : May F C N D M S L
  · have hw : at_ < 1 := by
      rcases Int.lt_or_le at_ 1 with h | h
      · exact h
      · exact (hM ⟨hm, h⟩).elim
    go_enter Try.func10, Try.ntmps10
    go_wp2_with fail
    refine (check_any F C N D M S A L K _ hL).mono ?_
    rintro e w1 ⟨rfl, hb1⟩
    rw [err_yes hm]
    have HB1 := Lib.hid (show Below w.heap.size w w1 from (((Below.refl _ _).alloc (Nat.le_refl _) _).alloc (by simp) _).trans (hb1.mono (by simp; omega)))
    have hc2 : w1.cell? ⟨w.heap.size + 1, 0, none⟩ = some (.int .i64 at_) := ((by have := Blk.new (w.alloc (.cells #[.int .i64 F, .int .i64 C, .int .i64 N, .int .i64 D, .int .i64 M, .int .i64 S, .slice A L K] 24)) 3 #[.int .i64 at_]; simpa using this : Blk ((w.alloc (.cells #[.int .i64 F, .int .i64 C, .int .i64 N, .int .i64 D, .int .i64 M, .int .i64 S, .slice A L K] 24)).alloc (.cells #[.int .i64 at_] 3)) (w.heap.size + 1) 3 #[.int .i64 at_]).below hb1 (by simp)).cell 0
    clear hb1
    go_wp2_with fail
    go_ret2
    exact ⟨rfl, HB1.out⟩
  · go_enter Try.func10, Try.ntmps10
    go_wp2_with fail
    refine (check_any F C N D M S A L K _ hL).mono ?_
    rintro e w1 ⟨rfl, hb1⟩
    rw [err_no hm]
    have HB1 := Lib.hid (show Below w.heap.size w w1 from (((Below.refl _ _).alloc (Nat.le_refl _) _).alloc (by simp) _).trans (hb1.mono (by simp; omega)))
    have hc2 : w1.cell? ⟨w.heap.size + 1, 0, none⟩ = some (.int .i64 at_) := ((by have := Blk.new (w.alloc (.cells #[.int .i64 F, .int .i64 C, .int .i64 N, .int .i64 D, .int .i64 M, .int .i64 S, .slice A L K] 24)) 3 #[.int .i64 at_]; simpa using this : Blk ((w.alloc (.cells #[.int .i64 F, .int .i64 C, .int .i64 N, .int .i64 D, .int .i64 M, .int .i64 S, .slice A L K] 24)).alloc (.cells #[.int .i64 at_] 3)) (w.heap.size + 1) 3 #[.int .i64 at_]).below hb1 (by simp)).cell 0
    clear hb1
    go_wp2_with fail
    go_ret2
    exact ⟨rfl, HB1.out⟩

theorem refWait_bad (F C N D M S : Int) (A : Option Addr) (L K : Nat) (at_ : Int) (w : World) (hL : L ≤ 9223372036854775807) (hM : ¬ (May F C N D M S L ∧ 1 ≤ at_)) :
    Calls Try.prog 11 #[.agg #[.int .i64 F, .int .i64 C, .int .i64 N, .int .i64 D, .int .i64 M, .int .i64 S, .slice A L K], .int .i64 at_] w fun e w' => e = .returned (.tuple #[.int .i64 0, .int .i64 1]) ∧ Below w.heap.size w w' := by
  by_cases hm : May F C N D M S L
  · have hw : at_ < 1 := by
      rcases Int.lt_or_le at_ 1 with h | h
      · exact h
      · exact (hM ⟨hm, h⟩).elim
    go_enter Try.func11, Try.ntmps11
    go_wp2_with fail
    refine (may_any F C N D M S A L K _ hL).mono ?_
    rintro e w1 ⟨rfl, hb1⟩
    rw [decide_eq_true hm]
    have HB1 := Lib.hid (show Below w.heap.size w w1 from ((Below.refl _ _).alloc (Nat.le_refl _) _).trans (hb1.mono (by simp)))
    clear hb1
    go_wp2_with fail
    go_ret2
    exact ⟨rfl, HB1.out⟩
  · go_enter Try.func11, Try.ntmps11
    go_wp2_with fail
    refine (may_any F C N D M S A L K _ hL).mono ?_
    rintro e w1 ⟨rfl, hb1⟩
    rw [decide_eq_false hm]
    have HB1 := Lib.hid (show Below w.heap.size w w1 from ((Below.refl _ _).alloc (Nat.le_refl _) _).trans (hb1.mono (by simp)))
    clear hb1
    go_wp2_with fail
    go_ret2
    exact ⟨rfl, HB1.out⟩


theorem refWait_ok (f c n d : Nat) (M S : Int) (A : Option Addr) (L K : Nat) (at_ : Nat) (w : World) (hM : May f c n d M S L) (hc : c < 9223372036854775808) (ha : 1 ≤ at_) (ha2 : at_ < 9223372036854775808) :
    Calls Try.prog 11 #[.agg #[.int .i64 (f : Nat), .int .i64 (c : Nat), .int .i64 (n : Nat), .int .i64 (d : Nat), .int .i64 M, .int .i64 S, .slice A L K], .int .i64 at_] w fun e w' => e = .returned (.tuple #[.int .i64 (wseq c n d f (at_ - 1) : Nat), .int .i64 0]) ∧ Below w.heap.size w w' := by
  have hL : L ≤ 100 := by obtain ⟨_, _, _, _, _, _, _, _, _, h⟩ := hM; omega
  have hn : n ≤ 1000 := by obtain ⟨_, _, _, _, h, _⟩ := hM; omega
  have hd : 1 ≤ d := by obtain ⟨_, _, h, _⟩ := hM; omega
  have hdn : d ≤ n := by obtain ⟨_, _, _, h, _⟩ := hM; omega
  have hf : f ≤ c := by obtain ⟨_, h, _⟩ := hM; omega
  have HM := Lib.hid hM
  clear hM
  go_enter Try.func11, Try.ntmps11
  go_wp2_with fail
  refine (may_any f c n d M S A L K _ (by omega)).mono ?_
  rintro e w1 ⟨rfl, hb1⟩
  rw [decide_eq_true HM.out]
  have hx1 : Blk w1 w.heap.size 24 #[.int .i64 (f : Nat), .int .i64 (c : Nat), .int .i64 (n : Nat), .int .i64 (d : Nat), .int .i64 M, .int .i64 S, .slice A L K] := (Blk.new w 24 _).below hb1 (by simp)
  have hB1 : Below w.heap.size w w1 := ((Below.refl _ _).alloc (Nat.le_refl _) _).trans (hb1.mono (by simp))
  have hcf : w1.cell? ⟨w.heap.size, 0, none⟩ = some (.int .i64 f) := hx1.cell 0
  have hsz : w.heap.size < w1.heap.size := by have := hb1.size; simp at this; omega
  clear hb1
  go_wp2_with fail
  go_loopw [6, 7] (fun v i wr => ∃ k : Nat, k + 1 ≤ at_ ∧ i = .int .i64 (k + 1 : Nat) ∧ v = .int .i64 (wseq c n d f k : Nat) ∧ Below w.heap.size w wr ∧ Blk wr w.heap.size 24 #[.int .i64 (f : Nat), .int .i64 (c : Nat), .int .i64 (n : Nat), .int .i64 (d : Nat), .int .i64 M, .int .i64 S, .slice A L K] ∧ w.heap.size < wr.heap.size) (fun _ i _ => at_ - (intOf i).toNat)
  case atStart => exact ⟨0, ha, rfl, rfl, hB1, hx1, hsz⟩
  case round =>
    obtain ⟨k, hk, rfl, rfl, hB, hX, hsz2⟩ := hrel
    clear hB1 hx1 hcf hsz
    have hx := wseq_le (n := n) (d := d) hf k
    have HS := Lib.hid (show wseq c n d f (k + 1) = nextN c n d (wseq c n d f k) from rfl)
    obtain ⟨x, hxe⟩ : ∃ x, x = wseq c n d f k := ⟨_, rfl⟩
    rw [← hxe] at hx HS ⊢
    have HXE := Lib.hid hxe
    have HB := Lib.hid hB
    have HX := Lib.hid hX
    clear hxe hB hX
    by_cases hlt : k + 1 < at_
    · go_wp2_with (refine wpList_load_row rfl 24 _ rfl w.heap.size rfl 24 _ (0, 0) _ HX.out Try.underlying24 rfl (by kernel_rfl) ?_)
      refine (next_any f M S c n d A L K x wr hn hd hdn hc (by omega)).mono ?_
      rintro e w2 ⟨rfl, hb2⟩
      have HB2 := Lib.hid (HB.out.trans (hb2.mono HB.out.size))
      have HX2 := Lib.hid (HX.out.below hb2 hsz2)
      have hsz3 : w.heap.size < w2.heap.size := Nat.lt_of_lt_of_le hsz2 hb2.size
      have hnl := next_le c n d x
      obtain ⟨y, hy2⟩ : ∃ y, y = nextN c n d x := ⟨_, rfl⟩
      rw [← hy2] at hnl HS ⊢
      clear hy2 hb2
      by_cases hxy : y = x
      · have HV := Lib.hid (show wseq c n d f (at_ - 1) = x by
          obtain ⟨j, hj⟩ : ∃ j, at_ - 1 = k + j := ⟨at_ - 1 - k, by omega⟩
          rw [hj, wseq_stays (by rw [HS.out, ← HXE.out, hxy]), ← HXE.out])
        go_wp2_with fail
        go_ret2
        exact ⟨by rw [HV.out]; rfl, HB2.out⟩
      · go_wp2_with fail
        go_roundw
        case rel => exact ⟨k + 1, by omega, by go_num, by rw [HS.out], HB2.out, HX2.out, hsz3⟩
        case measure => simp [intOf]; omega
    · have hk2 : at_ - 1 = k := by omega
      have HV := Lib.hid (show wseq c n d f (at_ - 1) = x by rw [hk2, HXE.out])
      have hle : at_ ≤ k + 1 := by omega
      go_wp2_with fail
      go_ret2
      exact ⟨by rw [HV.out]; rfl, HB.out⟩

theorem doubling_any (w : World) : Calls Try.prog 21 #[] w fun e w' => ∃ A, e = .returned (.agg #[.int .i64 100, .int .i64 1000, .int .i64 2, .int .i64 1, .int .i64 5, .int .i64 0, .slice A 1 1]) ∧ Reads w' w'.heap.size 1 A 1 (icells [7]) ∧ Below w.heap.size w w' := by
  go_enter Try.func21, Try.ntmps21
  go_wp2_with fail
  refine bodyPost_ret (results_cell_row rfl _ _ w.heap.size 24 _ (0, 0) _ rfl ((Blk.new w 24 _).alloc _) Try.underlying24 rfl (by kernel_rfl)) rfl ⟨_, rfl, ?_, ((Below.refl _ _).alloc (Nat.le_refl _) _).alloc (by simp) _⟩
  refine ⟨rfl, fun _ => ⟨_, rfl, by simp, fun j u hu => ?_⟩⟩
  obtain ⟨h1, rfl⟩ : j = 0 ∧ u = .int .i64 7 := by
    rcases j with _ | j
    · exact ⟨rfl, by simpa [icells] using hu.symm⟩
    · simp [icells] at hu
  subst h1
  have := World.cell?_alloc_new (w.alloc (.cells #[.int .i64 100, .int .i64 1000, .int .i64 2, .int .i64 1, .int .i64 5, .int .i64 0, .slice (some ⟨w.heap.size + 1, 0, none⟩) 1 1] 24)) #[.int .i64 7] 2 0
  rw [World.size_alloc] at this
  exact this

theorem awake_any (w : World) : Calls Try.prog 14 #[] w fun e w' => e = .returned (.bool true) ∧ Below w.heap.size w w' := by
  go_enter Try.func14, Try.ntmps14
  go_wp2_with fail
  refine (doubling_any w).mono ?_
  rintro e w1 ⟨A, rfl, _, hb1⟩
  have HB1 := Lib.hid hb1
  clear hb1
  go_wp2_with fail
  refine (wait_ok 100 1000 2 1 5 0 A 1 1 4 w1 (by decide) (by omega) (by omega) (by omega)).mono ?_
  rintro e w2 ⟨rfl, hb2⟩
  have HB2 := Lib.hid (HB1.out.trans (hb2.mono HB1.out.size))
  clear hb2
  rw [show wseq 1000 2 1 100 (4 - 1) = 800 by decide]
  go_wp2_with fail
  go_ret
  exact ⟨rfl, HB2.out⟩
end Go.Proofs.Yticcicdbncmfbaa
