/- Contract of frame.look. -/
import Derived.Test.YtmoplkmfpobhaaaGet
import Derived.Deep.RegionWith
import Derived.Deep.DeepCutAuto
import Derived.Handy
namespace Go.Proofs.Ytmoplkmfpobhaaa
open Go.RowKit

/-- What the bytes say as a frame: how long the body is, where it goes wrong, and how. -/
def lookL (b : List UInt8) : Nat × Nat × Nat :=
  if b.length < 8 then (0, b.length, 4)
  else if num4 (b.drop 4) ≠ sumL (b.take 4) then (0, 4, 8)
  else if 65536 < num4 b then (0, 0, 2)
  else if b.length < 8 + num4 b + 4 then (0, b.length, 4)
  else if num4 (b.drop (8 + num4 b)) ≠ sumL ((b.take (8 + num4 b)).drop 8) then (0, 8 + num4 b, 8)
  else (num4 b, 0, 0)

theorem drewN_below {B : Nat} {a w : World} (h : Below B a w) (n : Nat) : Below B a (w.drewN n) := ⟨h.os, h.tape, h.output, h.size, h.block⟩

theorem get_f (A : Option Addr) (n cap : Nat) (l : List UInt8) (B : Nat) (w0 W : World) (hl : l.length = n) (hn : 4 ≤ n) (hn2 : n ≤ 100000) (hr : Reads w0 B 1 A n (bcells l)) (hb : Below B w0 W) :
    Calls Try.prog 31 #[.slice A n cap] W fun e w' => e = .returned (.int .u32 (num4 l)) ∧ Below B w0 w' :=
  (get_any A n cap l W hl hn (by omega) B (hr.below hb)).mono fun _ _ ⟨he, m, hm⟩ => ⟨he, by rw [hm]; exact drewN_below hb m⟩
theorem sum_f (A : Option Addr) (n cap : Nat) (l : List UInt8) (B : Nat) (w0 W : World) (hl : l.length = n) (hn : n ≤ 70000) (hr : Reads w0 B 1 A n (bcells l)) (hb : Below B w0 W) (hB : B ≤ w0.heap.size) :
    Calls Try.prog 13 #[.slice A n cap] W fun e w' => e = .returned (.int .u32 (sumL l)) ∧ Below B w0 w' :=
  (sum_any A n cap l W hl hn ((hr.below hb).more (Nat.le_trans hB hb.size))).mono fun _ _ ⟨he, h2⟩ => ⟨he, hb.trans (h2.mono (Nat.le_trans hB hb.size))⟩

set_option maxHeartbeats 1000000 in
theorem look_any (A : Option Addr) (n cap : Nat) (l : List UInt8) (w : World) (hl : l.length = n) (hn : n ≤ 100000) (hc : n ≤ cap) (hr : Reads w w.heap.size 1 A n (bcells l)) :
    Calls Try.prog 28 #[.slice A n cap] w fun e w' => e = .returned (.tuple #[.int .i64 (lookL l).1, .int .i64 (lookL l).2.1, .int .i64 (lookL l).2.2]) ∧ Below w.heap.size w w' := by
  have HL := Lib.hid hl
  have HR := Lib.hid hr
  clear hr hl
  by_cases h8 : n < 8
  · have HV := Lib.hid (show lookL l = (0, n, 4) by unfold lookL; rw [if_pos (by rw [HL.out]; exact h8), HL.out])
    go_enter Try.func28, Try.ntmps28
    go_wp2_with fail
    go_ret3
    exact ⟨by rw [HV.out]; rfl, Below.refl _ _⟩
  · obtain ⟨b, off, rfl, -, -⟩ := HR.out.bytes (by omega)
    have HR4 := Lib.hid (HR.out.sub 4 n (by omega) (Nat.le_refl _))
    have HR04 := Lib.hid (HR.out.sub 0 4 (by omega) (by omega))
    have hc4 : (cap == 4) = false := by rw [beq_eq_false_iff_ne]; omega
    have e4 : (l.take n).drop 4 = l.drop 4 := by rw [List.take_of_length_le (by rw [HL.out]; omega)]
    have e04 : (l.take 4).drop 0 = l.take 4 := by simp
    rw [e4] at HR4
    rw [e04] at HR04
    clear e4 e04
    go_enter Try.func28, Try.ntmps28
    go_wp2_with fail
    refine (get_f _ n cap l w.heap.size w w HL.out (by omega) hn HR.out (Below.refl _ _)).mono ?_
    rintro e w1 ⟨rfl, hb1⟩
    have HB1 := Lib.hid hb1
    clear hb1
    have hlt := num4_lt l
    go_upto_region 4 with fail
    go_cut [13] (fun s13 wx => s13 = .bool (((num4 (l.drop 4) : Nat) : Int) != ((sumL (l.take 4) : Nat) : Int)) ∧ Below w.heap.size w wx)
    case first =>
      go_region_with (first | (go_at_call 31; refine (get_f _ (n - 4) _ (l.drop 4) w.heap.size w _ (by rw [List.length_drop, HL.out]) (by omega) (by omega) HR4.out (Below.drew HB1.out)).mono ?_; rintro e w2 ⟨rfl, hb2⟩; have HB2 := Lib.hid hb2; clear hb2) | (go_at_call 13; refine (sum_f _ 4 _ (l.take 4) w.heap.size w _ (by rw [List.length_take, HL.out]; omega) (by omega) HR04.out HB2.out (Nat.le_refl _)).mono ?_; rintro e w3 ⟨rfl, hb3⟩; have HB3 := Lib.hid hb3; clear hb3))
      all_goals (go_wp2_with fail; go_meet; exact ⟨rfl, HB3.out⟩)
    case rest =>
      obtain ⟨hs, hb⟩ := hcut
      have HB := Lib.hid hb
      clear hb HB1
      by_cases hq : num4 (l.drop 4) = sumL (l.take 4)
      · rw [show (((num4 (l.drop 4) : Nat) : Int) != ((sumL (l.take 4) : Nat) : Int)) = false from by rw [hq]; simp] at hs
        subst hs
        have HQ := Lib.hid hq
        clear hq
        have hn8 : ¬ l.length < 8 := by rw [HL.out]; exact h8
        have hq' := HQ.out
        by_cases hbig : 65536 < num4 l
        · have HV := Lib.hid (show lookL l = (0, 0, 2) by unfold lookL; rw [if_neg hn8, if_neg (by simpa using hq'), if_pos hbig])
          clear hn8 hq'
          go_wp2_with fail
          go_ret3
          exact ⟨by rw [HV.out]; rfl, HB.out⟩
        · by_cases hsh : n < 8 + num4 l + 4
          · have HV := Lib.hid (show lookL l = (0, n, 4) by unfold lookL; rw [if_neg hn8, if_neg (by simpa using hq'), if_neg hbig, if_pos (by rw [HL.out]; exact hsh), HL.out])
            clear hn8 hq'
            generalize num4 l = size at *
            go_wp2_with fail
            go_ret3
            exact ⟨by rw [HV.out]; rfl, HB.out⟩
          · have HVN : Hid (num4 (l.drop (8 + num4 l)) ≠ sumL ((l.take (8 + num4 l)).drop 8) → lookL l = (0, 8 + num4 l, 8)) :=
              fun h => by unfold lookL; rw [if_neg hn8, if_neg (by simpa using hq'), if_neg hbig, if_neg (by rw [HL.out]; exact hsh), if_pos h]
            have HVY : Hid (num4 (l.drop (8 + num4 l)) = sumL ((l.take (8 + num4 l)).drop 8) → lookL l = (num4 l, 0, 0)) :=
              fun h => by unfold lookL; rw [if_neg hn8, if_neg (by simpa using hq'), if_neg hbig, if_neg (by rw [HL.out]; exact hsh), if_neg (by simpa using h)]
            clear hn8 hq' HQ
            generalize num4 l = size at *
            have HRt := Lib.hid (HR.out.sub (8 + size) n (by omega) (Nat.le_refl _))
            have HRm := Lib.hid (HR.out.sub 8 (8 + size) (by omega) (by omega))
            have et : (l.take n).drop (8 + size) = l.drop (8 + size) := by rw [List.take_of_length_le (by rw [HL.out]; omega)]
            rw [et] at HRt
            clear et
            rw [Nat.add_sub_cancel_left] at HRm
            go_upto_region 12 with fail
            go_cut [44] (fun s44 wx => s44 = .bool (((num4 (l.drop (8 + size)) : Nat) : Int) != ((sumL ((l.take (8 + size)).drop 8) : Nat) : Int)) ∧ Below w.heap.size w wx)
            case first =>
              go_region_with (first | (go_at_call 31; refine (get_f _ (n - (8 + size)) _ (l.drop (8 + size)) w.heap.size w _ (by rw [List.length_drop, HL.out]) (by omega) (by omega) HRt.out (Below.drew HB.out)).mono ?_; rintro e w2 ⟨rfl, hb2⟩; have HB2 := Lib.hid hb2; clear hb2) | (go_at_call 13; refine (sum_f _ size _ ((l.take (8 + size)).drop 8) w.heap.size w _ (by rw [List.length_drop, List.length_take, HL.out]; omega) (by omega) HRm.out HB2.out (Nat.le_refl _)).mono ?_; rintro e w3 ⟨rfl, hb3⟩; have HB3 := Lib.hid hb3; clear hb3))
              all_goals (go_wp2_with fail; go_meet; exact ⟨rfl, HB3.out⟩)
            case rest =>
              obtain ⟨hs, hb⟩ := hcut
              have HB4 := Lib.hid hb
              clear hb HB
              by_cases hq2 : num4 (l.drop (8 + size)) = sumL ((l.take (8 + size)).drop 8)
              · rw [show (((num4 (l.drop (8 + size)) : Nat) : Int) != ((sumL ((l.take (8 + size)).drop 8) : Nat) : Int)) = false from by rw [hq2]; simp] at hs
                subst hs
                have HV := Lib.hid (HVY.out hq2)
                clear hq2
                go_wp2_with fail
                go_ret3
                exact ⟨by rw [HV.out]; rfl, HB4.out⟩
              · rw [show (((num4 (l.drop (8 + size)) : Nat) : Int) != ((sumL ((l.take (8 + size)).drop 8) : Nat) : Int)) = true from by rw [bne_iff_ne]; omega] at hs
                subst hs
                have HV := Lib.hid (HVN.out hq2)
                clear hq2
                go_wp2_with fail
                go_ret3
                exact ⟨by rw [HV.out]; rfl, HB4.out⟩
      · rw [show (((num4 (l.drop 4) : Nat) : Int) != ((sumL (l.take 4) : Nat) : Int)) = true from by rw [bne_iff_ne]; omega] at hs
        subst hs
        have HV := Lib.hid (show lookL l = (0, 4, 8) by unfold lookL; rw [if_neg (by rw [HL.out]; exact h8), if_pos hq])
        clear hq
        go_wp2_with fail
        go_ret3
        exact ⟨by rw [HV.out]; rfl, HB.out⟩
end Go.Proofs.Ytmoplkmfpobhaaa
