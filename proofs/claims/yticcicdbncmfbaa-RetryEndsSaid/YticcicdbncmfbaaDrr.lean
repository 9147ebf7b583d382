/- The document's answer for a wait that a draw makes shorter. -/
import Derived.Test.YticcicdbncmfbaaDrw
namespace Go.Proofs.Yticcicdbncmfbaa
open Go.RowKit

theorem andI (i : Nat) (hi : i < 9223372036854775808) : bits BinOp.and IntKind.i64 (i : Int) 4294967295 = ((i % 4294967296 : Nat) : Int) := by
  have h1 : (BitVec.ofInt 64 (i : Int)).toNat = i := by
    rw [BitVec.ofInt_natCast, BitVec.toNat_ofNat]; exact Nat.mod_eq_of_lt (by omega)
  have h2 : (BitVec.ofInt 64 (4294967295 : Int)).toNat = 4294967295 := by decide
  show IntKind.i64.wrap ((BitVec.ofInt 64 (i : Int) &&& BitVec.ofInt 64 (4294967295 : Int)).toNat : Int) = _
  rw [BitVec.toNat_and, h1, h2, show (4294967295 : Nat) = 2 ^ 32 - 1 from rfl, Nat.and_two_pow_sub_one_eq_mod]
  rw [IntKind.wrap_i64]
  omega

theorem mix_eq (wn sn : Nat) : wn / 100 * sn + wn % 100 * sn / 100 = wn * sn / 100 := by
  have h : wn * sn = wn / 100 * sn * 100 + wn % 100 * sn := by
    rw [Nat.mul_right_comm (wn / 100) sn 100, ← Nat.add_mul, Nat.div_add_mod' wn 100]
  rw [h]
  generalize wn / 100 * sn = a
  generalize wn % 100 * sn = b
  omega
theorem cut_eq (m d : Nat) : m / 4294967296 * d + m % 4294967296 * d / 4294967296 = m * d / 4294967296 := by
  have h : m * d = m / 4294967296 * d * 4294967296 + m % 4294967296 * d := by
    rw [Nat.mul_right_comm (m / 4294967296) d 4294967296, ← Nat.add_mul, Nat.div_add_mod' m 4294967296]
  rw [h]
  generalize m / 4294967296 * d = a
  generalize m % 4294967296 * d = b
  omega

theorem drawn_bad (F C N D M S : Int) (A : Option Addr) (L K : Nat) (wait : Int) (d : Value) (w : World) (hL : L ≤ 9223372036854775807) (hM : ¬ (May F C N D M S L ∧ 0 ≤ wait)) :
    Calls Try.prog 17 #[.agg #[.int .i64 F, .int .i64 C, .int .i64 N, .int .i64 D, .int .i64 M, .int .i64 S, .slice A L K], .int .i64 wait, d] w fun e w' => e = .returned (.tuple #[.int .i64 0, .int .i64 1]) ∧ Below w.heap.size w w' := by
  by_cases hm : May F C N D M S L
  · have hw : wait < 0 := by
      rcases Int.lt_or_le wait 0 with h | h
      · exact h
      · exact (hM ⟨hm, h⟩).elim
    go_enter Try.func17, Try.ntmps17
    go_wp2_with fail
    refine (check_any F C N D M S A L K _ hL).mono ?_
    rintro e w1 ⟨rfl, hb1⟩
    rw [err_yes hm]
    have HB1 := Lib.hid (show Below w.heap.size w w1 from ((Below.refl _ _).alloc (Nat.le_refl _) _).trans (hb1.mono (by simp)))
    clear hb1
    go_wp2_with fail
    go_ret2
    exact ⟨rfl, HB1.out⟩
  · go_enter Try.func17, Try.ntmps17
    go_wp2_with fail
    refine (check_any F C N D M S A L K _ hL).mono ?_
    rintro e w1 ⟨rfl, hb1⟩
    rw [err_no hm]
    have HB1 := Lib.hid (show Below w.heap.size w w1 from ((Below.refl _ _).alloc (Nat.le_refl _) _).trans (hb1.mono (by simp)))
    clear hb1
    go_wp2_with fail
    go_ret2
    exact ⟨rfl, HB1.out⟩

theorem refDrawn_bad (F C N D M S : Int) (A : Option Addr) (L K : Nat) (wait : Int) (d : Value) (w : World) (hL : L ≤ 9223372036854775807) (hM : ¬ (May F C N D M S L ∧ 0 ≤ wait)) :
    Calls Try.prog 18 #[.agg #[.int .i64 F, .int .i64 C, .int .i64 N, .int .i64 D, .int .i64 M, .int .i64 S, .slice A L K], .int .i64 wait, d] w fun e w' => e = .returned (.tuple #[.int .i64 0, .int .i64 1]) ∧ Below w.heap.size w w' := by
  by_cases hm : May F C N D M S L
  · have hw : wait < 0 := by
      rcases Int.lt_or_le wait 0 with h | h
      · exact h
      · exact (hM ⟨hm, h⟩).elim
    go_enter Try.func18, Try.ntmps18
    go_wp2_with fail
    refine (may_any F C N D M S A L K _ hL).mono ?_
    rintro e w1 ⟨rfl, hb1⟩
    rw [decide_eq_true hm]
    have HB1 := Lib.hid (show Below w.heap.size w w1 from ((Below.refl _ _).alloc (Nat.le_refl _) _).trans (hb1.mono (by simp)))
    clear hb1
    go_wp2_with fail
    go_ret2
    exact ⟨rfl, HB1.out⟩
  · go_enter Try.func18, Try.ntmps18
    go_wp2_with fail
    refine (may_any F C N D M S A L K _ hL).mono ?_
    rintro e w1 ⟨rfl, hb1⟩
    rw [decide_eq_false hm]
    have HB1 := Lib.hid (show Below w.heap.size w w1 from ((Below.refl _ _).alloc (Nat.le_refl _) _).trans (hb1.mono (by simp)))
    clear hb1
    go_wp2_with fail
    go_ret2
    exact ⟨rfl, HB1.out⟩

theorem refDrawn_ok (F C N D M : Int) (sn : Nat) (A : Option Addr) (L K wn draw : Nat) (w : World) (hM : May F C N D M sn L) (hw : wn < 9223372036854775808) (hd : draw < 4294967296) :
    Calls Try.prog 18 #[.agg #[.int .i64 F, .int .i64 C, .int .i64 N, .int .i64 D, .int .i64 M, .int .i64 (sn : Nat), .slice A L K], .int .i64 wn, .int .u32 draw] w fun e w' => e = .returned (.tuple #[.int .i64 (drawnV sn wn draw), .int .i64 0]) ∧ Below w.heap.size w w' := by
  have hs : sn ≤ 100 := by obtain ⟨_, _, _, _, _, _, _, _, h, _⟩ := hM; omega
  have hL : L ≤ 100 := by obtain ⟨_, _, _, _, _, _, _, _, _, h⟩ := hM; omega
  have hp : wn * sn ≤ wn * 100 := Nat.mul_le_mul_left _ hs
  have hmm : wn * sn / 100 ≤ wn := Nat.div_le_of_le_mul (by omega)
  obtain ⟨m1, hm1⟩ : ∃ m, m = wn / 100 * sn := ⟨_, rfl⟩
  obtain ⟨m2, hm2⟩ : ∃ m, m = wn % 100 * sn := ⟨_, rfl⟩
  have hm2b : m2 ≤ 99 * 100 := by rw [hm2]; exact Nat.mul_le_mul (by omega) hs
  obtain ⟨m, hm⟩ : ∃ m, m = m1 + m2 / 100 := ⟨_, rfl⟩
  have hmq : m = wn * sn / 100 := by rw [hm, hm1, hm2, mix_eq]
  have hmw : m ≤ wn := by rw [hmq]; exact hmm
  obtain ⟨h, hh⟩ : ∃ h, h = m / 4294967296 := ⟨_, rfl⟩
  obtain ⟨l, hl⟩ : ∃ l, l = m % 4294967296 := ⟨_, rfl⟩
  obtain ⟨c1, hc1⟩ : ∃ c, c = h * draw := ⟨_, rfl⟩
  obtain ⟨c2, hc2⟩ : ∃ c, c = l * draw := ⟨_, rfl⟩
  have hc2b : c2 < 4294967296 * 4294967296 := by rw [hc2]; exact Nat.mul_lt_mul'' (by omega) hd
  obtain ⟨c, hc⟩ : ∃ c, c = c1 + c2 / 4294967296 := ⟨_, rfl⟩
  have hcq : c = m * draw / 4294967296 := by rw [hc, hc1, hc2, hh, hl, cut_eq]
  have hcm : c ≤ m := by rw [hcq]; exact Nat.div_le_of_le_mul (by rw [Nat.mul_comm 4294967296]; exact Nat.mul_le_mul_left _ (by omega))
  have HE := Lib.hid (show drawnV sn wn draw = (wn : Int) - (c : Int) by unfold drawnV; simp only [Int.toNat_natCast]; rw [← hmq, ← hcq])
  have e1 : (wn : Int) / 100 * (sn : Int) = (m1 : Int) := by rw [hm1]; simp
  have e2 : (wn : Int) % 100 * (sn : Int) = (m2 : Int) := by rw [hm2]; simp
  have e3 : (m1 : Int) + (m2 : Int) / 100 = (m : Int) := by omega
  have e4 : (m : Int) / 4294967296 = (h : Int) := by omega
  have e5 : bits BinOp.and IntKind.i64 (m : Int) 4294967295 = (l : Int) := by rw [andI m (by omega), hl]
  have e6 : (h : Int) * (draw : Int) = (c1 : Int) := by rw [hc1]; simp
  have e7 : (l : Int) * (draw : Int) = (c2 : Int) := by rw [hc2]; simp
  have e8 : (c1 : Int) + (c2 : Int) / 4294967296 = (c : Int) := by omega
  have b1 : m1 ≤ m := by omega
  have b2 : c1 ≤ c := by omega
  have b3 : l < 4294967296 := by omega
  have HM := Lib.hid hM
  clear hp hmm hm1 hm2 hm hmq hh hl hc1 hc2 hc hcq hM
  go_enter Try.func18, Try.ntmps18
  go_wp2_with fail
  refine (may_any F C N D M sn A L K _ (by omega)).mono ?_
  rintro e w1 ⟨rfl, hb1⟩
  rw [decide_eq_true HM.out]
  have HB1 := Lib.hid (show Below w.heap.size w w1 from ((Below.refl _ _).alloc (Nat.le_refl _) _).trans (hb1.mono (by simp)))
  have hc1 := (bcell hb1).1
  clear hb1
  go_wp2_with fail
  go_ret2
  rw [HE.out]
  exact ⟨rfl, HB1.out⟩
end Go.Proofs.Yticcicdbncmfbaa
