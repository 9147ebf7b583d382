/- Contract of prompterref06.Read. -/
import Derived.Test.YtmoplkmfpobhaaaRd
import Derived.Test.YtmoplkmfpobhaaaCls
namespace Go.Proofs.Ytmoplkmfpobhaaa
open Go.RowKit

theorem num4_take (l : List UInt8) (k : Nat) (h : 4 ≤ k) : num4 (l.take k) = num4 l := by
  unfold num4
  simp only [List.getD_eq_getElem?_getD]
  rw [List.getElem?_take_of_lt (by omega), List.getElem?_take_of_lt (by omega), List.getElem?_take_of_lt (by omega), List.getElem?_take_of_lt (by omega)]
theorem num4_sub (l : List UInt8) (i : Nat) : num4 ((l.take (i + 4)).drop i) = num4 (l.drop i) := by
  rw [List.drop_take, Nat.add_sub_cancel_left, num4_take _ _ (Nat.le_refl _)]

set_option maxHeartbeats 2000000 in
theorem refRead_any (A : Option Addr) (n cap : Nat) (l : List UInt8) (w : World) (hl : l.length = n) (hn : n ≤ 70000) (hc : n ≤ cap) (hr : Reads w w.heap.size 1 A n (bcells l)) :
    Calls Try.prog 16 #[.slice A n cap] w fun e w' => ∃ v, e = .returned (.tuple #[v, .int .i64 (usedL l), .int .i64 (lookL l).2.2]) ∧ NewRow w v (bodyL l) w' := by
  have HL := Lib.hid hl
  have HR := Lib.hid hr
  clear hr hl
  have fin : ∀ (w' : World) (u er : Nat), lookL l = (0, u, er) → er ≠ 0 → (∃ m, w' = w.drewN m) →
      ∃ v, Ending.returned (.tuple #[.slice none 0 0, .int .i64 (u : Nat), .int .i64 (er : Nat)]) = .returned (.tuple #[v, .int .i64 (usedL l), .int .i64 (lookL l).2.2]) ∧ NewRow w v (bodyL l) w' := by
    rintro w' u er h1 h2 ⟨m, rfl⟩
    have hb : bodyL l = [] := by unfold bodyL; rw [h1, if_neg h2]
    have hu : usedL l = u := by unfold usedL; rw [h1, if_neg h2]
    refine ⟨.slice none 0 0, by rw [hu, h1], none, 0, by rw [hb]; rfl, ?_, drewN_below (Below.refl _ _) m⟩
    rw [hb]
    exact World.ownsRow_nil _ _ _ _
  have FIN := Lib.hid fin
  clear fin
  by_cases h8 : n < 8
  · have HV := Lib.hid (show lookL l = (0, n, 4) by unfold lookL; rw [if_pos (by rw [HL.out]; exact h8), HL.out])
    go_enter Try.func16, Try.ntmps16
    go_wp2_with fail
    go_ret3
    exact FIN.out w n 4 HV.out (by omega) ⟨0, rfl⟩
  · obtain ⟨b, off, rfl, -, -⟩ := HR.out.bytes (by omega)
    have HR48 := Lib.hid (HR.out.sub 4 8 (by omega) (by omega))
    have HR04 := Lib.hid (HR.out.sub 0 4 (by omega) (by omega))
    have e04 : (l.take 4).drop 0 = l.take 4 := by simp
    rw [e04] at HR04
    clear e04
    have hcap4 : (cap == 4) = false := by rw [beq_eq_false_iff_ne]; omega
    go_enter Try.func16, Try.ntmps16
    go_wp2_with fail
    go_quiet (first
      | (go_at_call 29; exact Calls.quiet_of_same ((number_any _ 4 _ ((l.take 8).drop 4) _ (by rw [List.length_drop, List.length_take, HL.out]; omega) (by omega) (by omega) w.heap.size (HR48.out.drewN _)).mono fun _ _ h => ⟨h.1, h.2.symm⟩))
      | (go_at_call 14; exact Calls.quiet_of_same ((refSum_any _ 4 _ (l.take 4) _ (by rw [List.length_take, HL.out]; omega) (by omega) w.heap.size (HR04.out.drewN _)).mono fun _ _ h => ⟨h.1, h.2.symm⟩)))
    have HR04 := Lib.hid (HR04.out.drewN nq)
    have HR := Lib.hid (HR.out.drewN nq)
    obtain ⟨w9, hw9⟩ : ∃ w9, w9 = w.drewN nq := ⟨_, rfl⟩
    rw [← hw9] at HR HR04 ⊢
    have HW9 := Lib.hid hw9
    have hsz9 : w.heap.size ≤ w9.heap.size := by rw [hw9]; exact Nat.le_refl _
    clear hw9 HR48
    have hn8 : ¬ l.length < 8 := by rw [HL.out]; exact h8
    have HN8 := Lib.hid hn8
    have hlt := num4_lt l
    clear hn8
    rw [show num4 ((l.take 8).drop 4) = num4 (l.drop 4) from num4_sub l 4]
    by_cases hq : num4 (l.drop 4) = sumL (l.take 4)
    · have HQ := Lib.hid hq
      rw [hq]
      clear hq
      go_wp2_with fail
      refine (number_any _ 4 _ (l.take 4) _ (by rw [List.length_take, HL.out]; omega) (by omega) (by omega) w.heap.size (HR04.out)).mono ?_
      rintro e w1 ⟨rfl, rfl⟩
      rw [num4_take l 4 (Nat.le_refl _)]
      by_cases hbig : 65536 < num4 l
      · have HV := Lib.hid (show lookL l = (0, 0, 2) by unfold lookL; rw [if_neg HN8.out, if_neg (by simpa using HQ.out), if_pos hbig])
        generalize num4 l = size at *
        go_wp2_with fail
        go_ret3
        exact FIN.out _ 0 2 HV.out (by omega) ⟨_, HW9.out⟩
      · by_cases hsh : n < 8 + num4 l + 4
        · have HV := Lib.hid (show lookL l = (0, n, 4) by unfold lookL; rw [if_neg HN8.out, if_neg (by simpa using HQ.out), if_neg hbig, if_pos (by rw [HL.out]; exact hsh), HL.out])
          generalize num4 l = size at *
          go_wp2_with fail
          go_ret3
          exact FIN.out _ n 4 HV.out (by omega) ⟨_, HW9.out⟩
        · have HVN : Hid (num4 (l.drop (8 + num4 l)) ≠ sumL ((l.take (8 + num4 l)).drop 8) → lookL l = (0, 8 + num4 l, 8)) :=
            fun h => by unfold lookL; rw [if_neg HN8.out, if_neg (by simpa using HQ.out), if_neg hbig, if_neg (by rw [HL.out]; exact hsh), if_pos h]
          have HVY : Hid (num4 (l.drop (8 + num4 l)) = sumL ((l.take (8 + num4 l)).drop 8) → lookL l = (num4 l, 0, 0)) :=
            fun h => by unfold lookL; rw [if_neg HN8.out, if_neg (by simpa using HQ.out), if_neg hbig, if_neg (by rw [HL.out]; exact hsh), if_neg (by simpa using h)]
          clear HQ
          generalize num4 l = size at *
          have HRt := Lib.hid (HR.out.sub (8 + size) (8 + size + 4) (by omega) (by omega))
          have HRm := Lib.hid (HR.out.sub 8 (8 + size) (by omega) (by omega))
          rw [Nat.add_sub_cancel_left] at HRm HRt
          have hs65 : size ≤ 65536 := by omega
          have x1 : (0 : Int) ≤ 8 + (size : Int) := by omega
          have x2 : (0 : Int) ≤ 8 + (size : Int) + 4 := by omega
          have x5 : 8 + (size : Int) ≤ 8 + (size : Int) + 4 := by omega
          have x6 : 8 + (size : Int) + 4 ≤ (cap : Int) := by omega
          have x7 : 8 + (size : Int) ≤ (cap : Int) := by omega
          have x8 : (8 : Int) ≤ 8 + (size : Int) := by omega
          have hw : IntKind.i64.wrap (8 + (size : Int) + 4) = 8 + (size : Int) + 4 := IntWalk.i64_in _ (by omega)
          have h2 : (8 + (size : Int)).toNat = 8 + size := by omega
          have h3 : (8 + (size : Int) + 4).toNat = 8 + size + 4 := by omega
          have h4 : 8 + size + 4 - (8 + size) = 4 := by omega
          have h5 : 8 + size - 8 = size := by omega
          have hcap8 : ¬ cap = 8 := by omega
          have hcap9 : ¬ cap = 8 + size := by omega
          go_wp2_with fail
          go_quiet (first
            | (go_at_call 29; exact Calls.quiet_of_same ((number_any _ 4 _ ((l.take (8 + size + 4)).drop (8 + size)) _ (by rw [List.length_drop, List.length_take, HL.out]; omega) (by omega) (by omega) w.heap.size (HRt.out.drewN _)).mono fun _ _ h => ⟨h.1, h.2.symm⟩))
            | (go_at_call 14; exact Calls.quiet_of_same ((refSum_any _ size _ ((l.take (8 + size)).drop 8) _ (by rw [List.length_drop, List.length_take, HL.out]; omega) (by omega) w.heap.size (HRm.out.drewN _)).mono fun _ _ h => ⟨h.1, h.2.symm⟩)))
          rw [show num4 ((l.take (8 + size + 4)).drop (8 + size)) = num4 (l.drop (8 + size)) from num4_sub l (8 + size)]
          clear hw h2 h3 h4 h5 x1 x2 x5 x6 x7 x8 hcap9 hcap4
          by_cases hq2 : num4 (l.drop (8 + size)) = sumL ((l.take (8 + size)).drop 8)
          · have HV := Lib.hid (HVY.out hq2)
            rw [hq2]
            clear hq2
            obtain ⟨i0, hi, hz0, hz1, hz2⟩ := info_parts Try.info5
            have HB : Hid (bodyL l = (l.take (8 + size)).drop 8) := by show bodyL l = _; unfold bodyL; rw [HV.out]; rfl
            have HU : Hid (usedL l = 8 + size + 4) := by show usedL l = _; unfold usedL; rw [HV.out]; rfl
            have HR8 : Hid (Reads (w9.drewN nq) w.heap.size 1 (some ⟨b, off + 8, none⟩) (8 + size - 8) (bcells ((l.take (8 + size)).drop 8))) := by rw [Nat.add_sub_cancel_left]; exact HRm.out.drewN nq
            go_wp2_with (at_builtin; refine wpList_append_any _ rfl (.tmp 47) (.tmp 50) 22 rfl w.heap.size 5 i0 (.int .u8 0) 1 1 Try.underlying22 hi hz0 hz1 hz2 rfl (by decide) (.slice none 0 0) 0 (bcells []) rfl (World.ownsRow_nil _ _ _ _) w.heap.size _ (8 + size - 8) (cap - 8) (bcells ((l.take (8 + size)).drop 8)) rfl HR8.out (bcells_one _) (by unfold maxLen; omega) (by omega) (by simpa using hsz9) ?_; intro v2 w2 ho2 hg2 hat2)
            have HO2 := Lib.hid ho2
            have HB2 := Lib.hid ((show Below w.heap.size w (w9.drewN nq) from by rw [HW9.out]; exact drewN_below (drewN_below (Below.refl _ _) _) _).grown hg2 (by simpa using hsz9) (fun g hg => by cases hg))
            clear ho2 hg2 hat2 hi hz0 hz1 hz2
            go_ret3
            have hlen : (bodyL l).length = size := by rw [HB.out, List.length_drop, List.length_take, HL.out]; omega
            have ho := HO2.out
            rw [← bcells_append, List.nil_append, ← HB.out, show 0 + (8 + size - 8) = (bodyL l).length from by omega] at ho
            obtain ⟨A2, c2, rfl, _⟩ := own_form ho
            exact ⟨_, by rw [HU.out, HV.out]; rfl, A2, c2, rfl, ho, HB2.out⟩
          · have HV := Lib.hid (HVN.out hq2)
            have hne : (((num4 (l.drop (8 + size)) : Nat) : Int) != ((sumL ((l.take (8 + size)).drop 8) : Nat) : Int)) = true := by rw [bne_iff_ne]; omega
            clear hq2
            go_wp2_with fail
            go_ret3
            exact FIN.out _ (8 + size) 8 HV.out (by omega) ⟨_, by rw [HW9.out, World.drewN_drewN]⟩
    · have HV := Lib.hid (show lookL l = (0, 4, 8) by unfold lookL; rw [if_neg HN8.out, if_pos hq])
      have hne : (((num4 (l.drop 4) : Nat) : Int) != ((sumL (l.take 4) : Nat) : Int)) = true := by rw [bne_iff_ne]; omega
      clear hq
      go_wp2_with fail
      go_ret3
      exact FIN.out _ 4 8 HV.out (by omega) ⟨_, HW9.out⟩
end Go.Proofs.Ytmoplkmfpobhaaa
