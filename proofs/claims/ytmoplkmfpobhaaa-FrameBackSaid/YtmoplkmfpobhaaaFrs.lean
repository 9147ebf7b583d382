/- The walk of prompterlaw06.FrameReads: it returns true. -/
import Derived.Test.YtmoplkmfpobhaaaAw
import Derived.Test.YtmoplkmfpobhaaaSpt
import Derived.Test.YtmoplkmfpobhaaaSme
namespace Go.Proofs.Ytmoplkmfpobhaaa
open Go.RowKit

theorem spl_len (l : List UInt8) : ∀ n, l.length ≤ n → (splN n l).1.length ≤ l.length := by
  intro n
  induction n generalizing l with
  | zero => intro h; simp [splN]
  | succ n ih =>
    intro h
    unfold splN
    by_cases h0 : l = []
    · rw [if_pos h0]; simp
    · rw [if_neg h0]
      by_cases he : (lookL l).2.2 = 0
      · have hu := used_pos he
        rw [if_pos he]
        have := ih (l.drop (usedL l)) (by rw [List.length_drop]; omega)
        rw [List.length_drop] at this
        simp only [List.length_cons]
        omega
      · rw [if_neg he]; simp

set_option maxHeartbeats 2000000 in
theorem reads_walk (A : Option Addr) (n cap : Nat) (l : List UInt8) (w : World) (hl : l.length = n) (hn : n ≤ 9223372036854775807) (hc : n ≤ cap) (hr : Reads w w.heap.size 1 A n (bcells l)) :
    Calls Try.prog 5 #[.slice A n cap] w fun e w' => e = .returned (.bool true) ∧ Below w.heap.size w w' := by
  have HL := Lib.hid hl
  have HR := Lib.hid hr
  clear hl hr
  go_enter Try.func5, Try.ntmps5
  go_wp2_with fail
  refine (awake_any w).mono ?_
  rintro e w1 ⟨rfl, hb1⟩
  have HB1 := Lib.hid hb1
  clear hb1
  by_cases h1 : 3000 < n
  · go_wp2_with fail
    go_ret
    exact ⟨rfl, HB1.out⟩
  · go_wp2_with fail
    have HR1 := Lib.hid ((HR.out.below HB1.out).more HB1.out.size)
    refine (read_any A n cap l w1 HL.out (by omega) hc HR1.out).mono ?_
    rintro e w2 ⟨v, rfl, A2, c2, rfl, ho2, hb2⟩
    have HO2 := Lib.hid ho2
    have HB2 := Lib.hid (HB1.out.trans (hb2.mono HB1.out.size))
    clear ho2 hb2
    have HR2 := Lib.hid ((HR.out.below HB2.out).more HB2.out.size)
    go_wp2_with fail
    refine (refRead_any A n cap l w2 HL.out (by omega) hc HR2.out).mono ?_
    rintro e w3 ⟨v, rfl, A3, c3, rfl, ho3, hb3⟩
    have hcv2 := run_str_own (P := Try.prog) w3 22 9 5 _ _ _ (bodyL l) Try.underlying22 Try.underlying5 Try.underlying9 rfl (own_below HO2.out hb3)
    have hcv3 := run_str_own (P := Try.prog) w3 22 9 5 _ _ _ (bodyL l) Try.underlying22 Try.underlying5 Try.underlying9 rfl ho3
    have HB3 := Lib.hid (HB2.out.trans (hb3.mono HB2.out.size))
    clear ho3 hb3
    go_wp2_with fail
    have HR3 := Lib.hid ((HR.out.below HB3.out).more HB3.out.size)
    refine (split_any A n cap l w3 HL.out (by omega) hc HR3.out).mono ?_
    rintro e w4 ⟨v4, rfl, hll4, hb4⟩
    clear hcv2 hcv3
    obtain ⟨A4, c4, rfl, _⟩ := hll4.form
    have HL4 := Lib.hid hll4
    have HB4 := Lib.hid (HB3.out.trans (hb4.mono HB3.out.size))
    clear hll4 hb4
    have HR4 := Lib.hid ((HR.out.below HB4.out).more HB4.out.size)
    go_wp2_with fail
    refine (refSplit_any refRead_any A n cap l w4 HL.out (by omega) hc HR4.out).mono ?_
    rintro e w5 ⟨v5, rfl, hll5, hb5⟩
    obtain ⟨A5, c5, rfl, _⟩ := hll5.form
    have HL5 := Lib.hid hll5
    have HL45 := Lib.hid (HL4.out.below hb5)
    have HB5 := Lib.hid (HB4.out.trans (hb5.mono HB4.out.size))
    have hlen : (spl l).1.length ≤ 9223372036854775807 := by have := spl_len l l.length (Nat.le_refl _); have := HL.out; unfold spl; omega
    clear hll5 hb5
    go_wp2_with fail
    refine (same_any A4 A5 c4 c5 (spl l).1 (spl l).1 w5 w5.heap.size HL45.out.rl HL5.out.rl hlen).mono ?_
    rintro e w6 ⟨rfl, m, rfl⟩
    rw [decide_eq_true rfl]
    go_wp2_with fail
    go_ret
    exact ⟨rfl, drewN_below HB5.out m⟩
end Go.Proofs.Ytmoplkmfpobhaaa
