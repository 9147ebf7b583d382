/- Contracts of prompterref06.four, Frame and of frame.Frame. -/
import Derived.Test.YtmoplkmfpobhaaaPut
namespace Go.Proofs.Ytmoplkmfpobhaaa
open Go.RowKit

def frameL (body : List UInt8) : List UInt8 := le4 body.length ++ le4 (sumL (le4 body.length)) ++ body ++ le4 (sumL body)

theorem le4_take (n k : Nat) (h : k < 4) : (le4 n).take (k + 1) = (le4 n).take k ++ [UInt8.ofNat (n / 256 ^ k % 256)] := by
  have : k = 0 ∨ k = 1 ∨ k = 2 ∨ k = 3 := by omega
  rcases this with rfl | rfl | rfl | rfl
  · simp [le4]
  · simp [le4]
  · simp [le4]
  · simp [le4]

set_option maxHeartbeats 400000 in
theorem four_any (n : Nat) (w : World) (hn : n < 4294967296) :
    Calls Try.prog 26 #[.int .u32 n] w fun e w' => ∃ v', e = .returned v' ∧ w'.ownsRow w.heap.size 5 1 v' 4 (bcells (le4 n)) ∧ Below w.heap.size w w' := by
  obtain ⟨i0, hi, hz0, hz1, hz2⟩ := info_parts Try.info5
  obtain ⟨B, hB⟩ : ∃ B, B = w.heap.size := ⟨_, rfl⟩
  have HBs := Lib.hid hB
  have hBle : B ≤ w.heap.size := by omega
  clear hB
  go_enter Try.func26, Try.ntmps26
  go_wp2
  go_loopw [0, 3, 4] (fun c s i wr => ∃ k : Nat, k ≤ 4 ∧ i = .int .i64 k ∧ c = .int .u32 ((n / 256 ^ k : Nat) : Int) ∧ wr.ownsRow B 5 1 s k (bcells ((le4 n).take k)) ∧ Below B w wr)
    (fun _ _ i _ => 4 - (intOf i).toNat)
  case atStart => exact ⟨0, by omega, rfl, by simp, World.ownsRow_nil _ _ _ _, Below.refl _ _⟩
  case round =>
    obtain ⟨k, hk, rfl, rfl, ho, hbl⟩ := hrel
    by_cases hlt : k < 4
    · have HT := Lib.hid (le4_take n k hlt)
      have HP := Lib.hid (show n / 256 ^ (k + 1) = n / 256 ^ k / 256 by rw [Nat.pow_succ, Nat.div_div_eq_div_mul])
      have hm : n / 256 ^ k ≤ n := Nat.div_le_self _ _
      generalize n / 256 ^ k = m at HT HP hm
      have hs := hbl.size
      have HO := Lib.hid ho
      clear ho
      go_wp2_with (at_builtin; refine wpList_append_own _ rfl _ _ 22 rfl B 5 i0 (.int .u8 0) 1 1 Try.underlying22 hi hz0 hz1 hz2 rfl (by decide) _ _ _ rfl (HO.out.alloc _) ⟨wr.heap.size, 0, none⟩ 1 1 [_] rfl rfl (cell_one_new _ _ _) ?c2 ?c3 ?c4 ?c5 ?_)
      case c2 => intro u hu; simp at hu; subst hu; rfl
      case c3 => unfold maxLen; omega
      case c4 => omega
      case c5 => simp; omega
      intro v1 w1 ho1 hg1 _
      have ho2 : w1.ownsRow B 5 1 v1 (k + 1) (bcells ((le4 n).take (k + 1))) := by
        rw [HT.out, bcells_append]
        have e : bcells [UInt8.ofNat (m % 256)] = [.int .u8 ((m : Int) % 256)] := by
          unfold bcells
          simp only [List.map_cons, List.map_nil, UInt8.toNat_ofNat']
          rw [show ((m % 256 % 2 ^ 8 : Nat) : Int) = (m : Int) % 256 from by omega]
        rw [e]; exact ho1
      have hb2 : Below B w w1 := (hbl.alloc (by omega) _).grown hg1 (by simp; omega) (fun g hg => (World.ownsRow.lt HO.out g hg).1)
      clear ho1 hg1 HO
      go_wp2
      go_roundw
      case rel => exact ⟨k + 1, by omega, by go_num, by rw [HP.out]; rfl, ho2, hb2⟩
      case measure => simp [intOf]; omega
    · have hk4 : k = 4 := by omega
      subst hk4
      have HO := Lib.hid ho
      clear ho
      go_wp2
      go_ret
      exact ⟨_, rfl, by rw [← HBs.out]; exact HO.out, by rw [← HBs.out]; exact hbl⟩

theorem put_s (v : Value) (k : Nat) (l : List UInt8) (n : Nat) (B : Nat) (w : World) (hn : n < 4294967296) (hk : k ≤ 70000) (hB : B ≤ w.heap.size) (ho : w.ownsRow B 5 1 v k (bcells l)) :
    Calls Try.prog 25 #[v, .int .u32 n] w fun e w' => ∃ A c, e = .returned (.slice A (k + 4) c) ∧ w'.ownsRow B 5 1 (.slice A (k + 4) c) (k + 4) (bcells (l ++ le4 n)) ∧ Below B w w' :=
  (put_any v k l n B w hn hk hB ho).mono fun _ _ ⟨v', he, h1, h2⟩ => by
    obtain ⟨A, c, rfl, _⟩ := own_form h1
    exact ⟨A, c, he, h1, h2⟩
theorem four_s (n : Nat) (w : World) (hn : n < 4294967296) :
    Calls Try.prog 26 #[.int .u32 n] w fun e w' => ∃ A c, e = .returned (.slice A 4 c) ∧ w'.ownsRow w.heap.size 5 1 (.slice A 4 c) 4 (bcells (le4 n)) ∧ Below w.heap.size w w' :=
  (four_any n w hn).mono fun _ _ ⟨v', he, h1, h2⟩ => by
    obtain ⟨A, c, rfl, _⟩ := own_form h1
    exact ⟨A, c, he, h1, h2⟩

/-- What Frame hands back: a new row of these bytes. -/
def NewRow (w : World) (v : Value) (l : List UInt8) (w' : World) : Prop := ∃ A c, v = .slice A l.length c ∧ w'.ownsRow w.heap.size 5 1 (.slice A l.length c) l.length (bcells l) ∧ Below w.heap.size w w'

theorem frameL_length (l : List UInt8) : (frameL l).length = l.length + 12 := by simp [frameL, le4_length]; omega

set_option maxHeartbeats 800000 in
theorem frame_ok (A : Option Addr) (n cap : Nat) (l : List UInt8) (w : World) (hl : l.length = n) (hn : n ≤ 65536) (hr : Reads w w.heap.size 1 A n (bcells l)) :
    Calls Try.prog 11 #[.slice A n cap] w fun e w' => ∃ v, e = .returned (.tuple #[v, .int .i64 0]) ∧ NewRow w v (frameL l) w' := by
  obtain ⟨i0, hi, hz0, hz1, hz2⟩ := info_parts Try.info5
  have HL := Lib.hid hl
  have HR := Lib.hid hr
  have HI := Lib.hid (And.intro hi (And.intro hz0 (And.intro hz1 hz2)))
  clear hl hr hi hz0 hz1 hz2
  go_enter Try.func11, Try.ntmps11
  go_wp2_with fail
  refine (put_s (.slice none 0 0) 0 [] n w.heap.size w (by omega) (by omega) (Nat.le_refl _) (World.ownsRow_nil _ _ _ _)).mono ?_
  rintro e w1 ⟨A1, c1, rfl, ho1, hb1⟩
  have HO1 := Lib.hid ho1
  have HB1 := Lib.hid hb1
  clear ho1 hb1
  go_wp2_with fail
  refine (sum_any A1 4 c1 (le4 n) w1 rfl (by omega) (Reads.of_own HO1.out)).mono ?_
  rintro e w2 ⟨rfl, hb2⟩
  have HO2 := Lib.hid (own_below HO1.out hb2)
  have HB2 := Lib.hid (HB1.out.trans (hb2.mono HB1.out.size))
  clear hb2 HO1 HB1
  go_wp2_with fail
  refine (put_s (.slice A1 4 c1) 4 (le4 n) (sumL (le4 n)) w.heap.size w2 (sumL_lt _) (by omega) HB2.out.size HO2.out).mono ?_
  rintro e w3 ⟨A3, c3, rfl, ho3, hb3⟩
  have HO3 := Lib.hid ho3
  have HB3 := Lib.hid (HB2.out.trans hb3)
  have HR3 := Lib.hid (HR.out.below HB3.out)
  clear ho3 hb3 HO2 HB2
  obtain ⟨hi, hz0, hz1, hz2⟩ := HI.out
  go_wp2_with (at_builtin; refine wpList_append_any _ rfl _ _ 22 rfl w.heap.size 5 i0 (.int .u8 0) 1 1 Try.underlying22 hi hz0 hz1 hz2 rfl (by decide) _ _ _ rfl HO3.out w.heap.size A n cap _ rfl HR3.out (bcells_one l) ?c3 ?c4 ?c5 ?_)
  case c3 => unfold maxLen; omega
  case c4 => omega
  case c5 => exact HB3.out.size
  intro v4 w4 ho4 hg4 hat4
  rw [← bcells_append] at ho4
  have HB4 := Lib.hid (HB3.out.grown hg4 HB3.out.size (fun g hg => (World.ownsRow.lt HO3.out g hg).1))
  have HR4 := Lib.hid (HR.out.below HB4.out)
  have HO4 := Lib.hid ho4
  clear hi hz0 hz1 hz2 ho4 hg4 hat4 HO3 HB3 HR3
  go_wp2_with fail
  refine (sum_any A n cap l w4 HL.out (by omega) (HR4.out.more HB4.out.size)).mono ?_
  rintro e w5 ⟨rfl, hb5⟩
  have HO5 := Lib.hid (own_below HO4.out hb5)
  have HB5 := Lib.hid (HB4.out.trans (hb5.mono HB4.out.size))
  clear hb5 HO4 HB4 HR4
  go_wp2_with fail
  refine (put_s v4 (8 + n) (le4 n ++ le4 (sumL (le4 n)) ++ l) (sumL l) w.heap.size w5 (sumL_lt _) (by omega) HB5.out.size HO5.out).mono ?_
  rintro e w6 ⟨A6, c6, rfl, ho6, hb6⟩
  have HE := Lib.hid (show le4 n ++ le4 (sumL (le4 n)) ++ l ++ le4 (sumL l) = frameL l by unfold frameL; rw [HL.out])
  have HN := Lib.hid (show (frameL l).length = 8 + n + 4 by rw [frameL_length, HL.out]; omega)
  have HO6 := Lib.hid ho6
  have HB6 := Lib.hid (HB5.out.trans hb6)
  clear ho6 hb6 HO5 HB5
  go_wp2_with fail
  go_ret2
  refine ⟨_, rfl, A6, c6, ?_, ?_, HB6.out⟩
  · rw [HN.out]; rfl
  · rw [HN.out, ← HE.out]; exact HO6.out

theorem frame_long (A : Option Addr) (n cap : Nat) (w : World) (hn : 65536 < n) (hn2 : n ≤ 9223372036854775807) :
    Calls Try.prog 11 #[.slice A n cap] w fun e w' => e = .returned (.tuple #[.slice none 0 0, .int .i64 2]) ∧ w = w' := by
  go_enter Try.func11, Try.ntmps11
  go_wp2_with fail
  go_ret2
  exact ⟨rfl, rfl⟩

set_option maxHeartbeats 800000 in
theorem refFrame_any (A : Option Addr) (n cap : Nat) (l : List UInt8) (w : World) (hl : l.length = n) (hn : n ≤ 65536) (hr : Reads w w.heap.size 1 A n (bcells l)) :
    Calls Try.prog 12 #[.slice A n cap] w fun e w' => ∃ v, e = .returned v ∧ NewRow w v (frameL l) w' := by
  obtain ⟨i0, hi, hz0, hz1, hz2⟩ := info_parts Try.info5
  have HL := Lib.hid hl
  have HR := Lib.hid hr
  have HI := Lib.hid (And.intro hi (And.intro hz0 (And.intro hz1 hz2)))
  clear hl hr hi hz0 hz1 hz2
  go_enter Try.func12, Try.ntmps12
  go_wp2_with fail
  refine (four_s n w (by omega)).mono ?_
  rintro e w1 ⟨A1, c1, rfl, ho1, hb1⟩
  have HO1 := Lib.hid ho1
  have HB1 := Lib.hid hb1
  clear ho1 hb1
  go_wp2_with fail
  refine (refSum_any A1 4 c1 (le4 n) w1 rfl (by omega) _ (Reads.of_own HO1.out)).mono ?_
  rintro e w2 ⟨rfl, rfl⟩
  go_wp2_with fail
  refine (four_s (sumL (le4 n)) w1 (sumL_lt _)).mono ?_
  rintro e w2 ⟨A2, c2, rfl, ho2, hb2⟩
  have HO1' := Lib.hid (own_below HO1.out hb2)
  have HR2 := Lib.hid (Reads.of_own ho2)
  have HB2 := Lib.hid (HB1.out.trans (hb2.mono HB1.out.size))
  clear hb2 HO1 HB1 ho2
  obtain ⟨hi, hz0, hz1, hz2⟩ := HI.out
  go_wp2_with (first | (at_builtin; refine wpList_append_any _ rfl (.tmp 8) (.tmp 11) 22 rfl w.heap.size 5 i0 (.int .u8 0) 1 1 Try.underlying22 hi hz0 hz1 hz2 rfl (by decide) (.slice A1 4 c1) 4 (bcells (le4 n)) rfl HO1'.out w2.heap.size A2 4 c2 (bcells (le4 (sumL (le4 n)))) rfl HR2.out (bcells_one _) (by unfold maxLen; omega) (by omega) HB2.out.size ?_; intro v3 w3 ho3 hg3 hat3; rw [← bcells_append] at ho3; have HB3 := Lib.hid (HB2.out.grown hg3 HB2.out.size (fun g hg => (World.ownsRow.lt HO1'.out g hg).1)); have HR3 := Lib.hid (HR.out.below HB3.out); have HO3 := Lib.hid ho3; clear ho3 hg3 hat3) | (at_builtin; refine wpList_append_any _ rfl (.tmp 13) (.tmp 14) 22 rfl w.heap.size 5 i0 (.int .u8 0) 1 1 Try.underlying22 hi hz0 hz1 hz2 rfl (by decide) v3 (4 + 4) (bcells (le4 n ++ le4 (sumL (le4 n)))) rfl HO3.out w.heap.size A n cap (bcells l) rfl HR3.out (bcells_one _) (by unfold maxLen; omega) (by omega) HB3.out.size ?_; intro v4 w4 ho4 hg4 hat4; rw [← bcells_append] at ho4; have HB4 := Lib.hid (HB3.out.grown hg4 HB3.out.size (fun g hg => (World.ownsRow.lt HO3.out g hg).1)); have HR4 := Lib.hid (HR.out.below HB4.out); have HO4 := Lib.hid ho4; clear ho4 hg4 hat4))
  refine (refSum_any A n cap l w4 HL.out (by omega) _ HR4.out).mono ?_
  rintro e w5 ⟨rfl, rfl⟩
  clear hi hz0 hz1 hz2
  go_wp2_with fail
  refine (four_s (sumL l) w4 (sumL_lt _)).mono ?_
  rintro e w5 ⟨A5, c5, rfl, ho5, hb5⟩
  have HO4' := Lib.hid (own_below HO4.out hb5)
  have HR5 := Lib.hid (Reads.of_own ho5)
  have HB5 := Lib.hid (HB4.out.trans (hb5.mono HB4.out.size))
  have HE := Lib.hid (show le4 n ++ le4 (sumL (le4 n)) ++ l ++ le4 (sumL l) = frameL l by unfold frameL; rw [HL.out])
  have HN := Lib.hid (show (frameL l).length = 4 + 4 + n + 4 by rw [frameL_length, HL.out]; omega)
  clear hb5 ho5
  obtain ⟨hi, hz0, hz1, hz2⟩ := HI.out
  go_wp2_with (at_builtin; refine wpList_append_any _ rfl (.tmp 16) (.tmp 19) 22 rfl w.heap.size 5 i0 (.int .u8 0) 1 1 Try.underlying22 hi hz0 hz1 hz2 rfl (by decide) v4 (4 + 4 + n) (bcells (le4 n ++ le4 (sumL (le4 n)) ++ l)) rfl HO4'.out w5.heap.size A5 4 c5 (bcells (le4 (sumL l))) rfl HR5.out (bcells_one _) (by unfold maxLen; omega) (by omega) HB5.out.size ?_; intro v6 w6 ho6 hg6 hat6; rw [← bcells_append, HE.out, ← HN.out] at ho6; have HB6 := Lib.hid (HB5.out.grown hg6 HB5.out.size (fun g hg => (World.ownsRow.lt HO4'.out g hg).1)); have HO6 := Lib.hid ho6; clear ho6 hg6 hat6)
  go_ret
  obtain ⟨A6, c6, rfl, _⟩ := own_form HO6.out
  exact ⟨_, rfl, A6, c6, rfl, HO6.out, HB6.out⟩
end Go.Proofs.Ytmoplkmfpobhaaa
