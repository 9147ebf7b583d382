/- Contract of the document's May. -/
import Derived.Outline
import Derived.Deep.DeepCutAuto
import Derived.Deep.MidRow
import Derived.Test.YtlfkiaphmifelaaDoorAmg
import Derived.Test.YtlfkiaphmifelaaDoorWrd
import Derived.Test.YtlfkiaphmifelaaDoorFrk
namespace Go.Proofs.YtlfkiaphmifelaaDoor
open Go.RowKit

set_option maxRecDepth 100000 in
set_option maxHeartbeats 8000000 in
theorem may_any (x : Tz) (w : World) (hx : TzOk x) : Calls Tryd.prog 18 #[.agg (zcell x).toArray] w fun e w' => e = .returned (.bool (rightB x)) ∧ Below w.heap.size w w' := by
  obtain ⟨R, hR⟩ : ∃ R, R = rightB x := ⟨_, rfl⟩
  have HR := Lib.hid hR
  rw [← hR]
  clear hR
  obtain ⟨kd, st, iv, pl⟩ := x
  dsimp only [zcell]
  have hk9 := hx.k
  have ht := hx.t
  dsimp only at hk9 ht
  clear hx
  have H1 : Hid (Below w.heap.size w (w.alloc (.cells #[.int .u8 (kd : Nat), .string st, .int .i64 iv, .int .i64 pl] 33)) ∧ Blk (w.alloc (.cells #[.int .u8 (kd : Nat), .string st, .int .i64 iv, .int .i64 pl] 33)) w.heap.size 33 #[.int .u8 (kd : Nat), .string st, .int .i64 iv, .int .i64 pl]) := Lib.hid ⟨(Below.refl _ _).alloc (Nat.le_refl _) _, Blk.new _ _ _⟩
  go_enter Tryd.func18, Tryd.ntmps18
  go_upto_region 1 with fail
  generalize w.alloc (.cells #[.int .u8 (kd : Nat), .string st, .int .i64 iv, .int .i64 pl] 33) = w1 at *
  have k0 : w1.cell? ⟨w.heap.size, 0, none⟩ = some (.int .u8 (kd : Nat)) := H1.out.2.cell 0
  have k1 : w1.cell? ⟨w.heap.size, 1, none⟩ = some (.string st) := H1.out.2.cell 1
  have k2 : w1.cell? ⟨w.heap.size, 2, none⟩ = some (.int .i64 iv) := H1.out.2.cell 2
  by_cases hk2 : kd = 2
  · have hk := hk2
    have m1 : ((kd : Int) == 1) = false := by simp; omega
    have m2 : ((kd : Int) == 2) = true := by simp [hk]
    have m3 : ((kd : Int) == 3) = false := by simp; omega
    have m4 : ((kd : Int) == 4) = false := by simp; omega
    have HRK : Hid (R = (decide (st.data.toList = []) && decide (0 ≤ iv))) := Lib.hid (by rw [HR.out]; unfold rightB Tz.tx; dsimp only; rw [hk]; rfl)
    by_cases hst : st = ⟨#[]⟩
    · have HE : Hid (R = decide (0 ≤ iv)) := Lib.hid (by rw [HRK.out, hst]; simp)
      subst hst
      go_wp2_with fail
      go_ret
      exact ⟨ret_bool (by rw [HE.out]), H1.out.1⟩
    · have e0 : (st.toList == []) = false := by
        rw [beq_eq_false_iff_ne]
        exact fun h => hst (bytes_of_list (by rw [h, ByteArray.toList_eq]))
      have HE : Hid (R = false) := Lib.hid (by rw [HRK.out, decide_eq_false (fun h => hst (bytes_of_list (by rw [ByteArray.toList_eq, ByteArray.toList_eq, h])))]; rfl)
      clear hst
      go_wp2_with fail
      go_ret
      exact ⟨ret_bool (by rw [HE.out]), H1.out.1⟩
  by_cases hiv : iv = 0
  · have e9 : (iv != 0) = false := by simp [hiv]
    by_cases hk3 : kd = 3
    · have hk := hk3
      have m1 : ((kd : Int) == 1) = false := by simp; omega
      have m2 : ((kd : Int) == 2) = false := by simp; omega
      have m3 : ((kd : Int) == 3) = true := by simp [hk]
      have m4 : ((kd : Int) == 4) = false := by simp; omega
      have HRK : Hid (R = decide (st.data.toList.length ≤ 4095)) := Lib.hid (by rw [HR.out]; unfold rightB Tz.tx; dsimp only; rw [hk]; simp [hiv])
      have hsz : st.data.toList.length = st.size := by rw [Array.length_toList]; rfl
      go_wp2_with fail
      go_ret
      exact ⟨ret_bool (by rw [HRK.out, hsz]; simp; omega), H1.out.1⟩
    by_cases hk4 : kd = 4
    · have hk := hk4
      have m1 : ((kd : Int) == 1) = false := by simp; omega
      have m2 : ((kd : Int) == 2) = false := by simp; omega
      have m3 : ((kd : Int) == 3) = false := by simp; omega
      have m4 : ((kd : Int) == 4) = true := by simp [hk]
      have HRK : Hid (R = decide (st.data.toList ∈ sgn17)) := Lib.hid (by rw [HR.out]; unfold rightB Tz.tx; dsimp only; rw [hk]; simp [hiv])
      have HSG := Lib.hid (fun W => signs_call W)
      have HF0 : Hid (w1.drew.cell? ⟨w.heap.size, 1, none⟩ = some (.string st)) := Lib.hid k1
      have HB2 : Hid (Below w1.heap.size w1 (w1.drew.alloc (.cells sgnCells 9)) ∧ Blk (w1.drew.alloc (.cells sgnCells 9)) w1.heap.size 9 sgnCells) := Lib.hid ⟨(Below.refl _ _).drew.alloc (Nat.le_refl _) _, Blk.new w1.drew _ _⟩
      have HF1 : Hid ((w1.drew.alloc (.cells sgnCells 9)).cell? ⟨w.heap.size, 1, none⟩ = some (.string st)) := Lib.hid ((H1.out.2.below HB2.out.1 H1.out.2.lt).cell 1)
      have HAM : Hid (Calls Tryd.prog 29 #[.slice (some ⟨w1.heap.size, 0, none⟩) 17 17, .string st] (w1.drew.alloc (.cells sgnCells 9)) fun e w' => e = .returned (.bool R) ∧ w1.drew.alloc (.cells sgnCells 9) = w') := Lib.hid (by
        have h := among_any w1.heap.size 17 17 sgnR st (w1.drew.alloc (.cells sgnCells 9)) rfl (by omega) (fun k x hx => by
          rw [HB2.out.2.cell k, sgnCells, List.getElem?_toArray, List.getElem?_map, hx]; rfl)
        rw [ByteArray.toList_eq, amongR, ← HRK.out] at h
        exact h)
      go_wp2_with fail
      refine wp_region_plan (.q 1 (.q 2 (.a1 0 (.a1 3 (.q 4 .fin))))) 3 (fun W => Hid (W.cell? ⟨w.heap.size, 1, none⟩ = some (.string st))) (by kernel_rfl) rfl (by kernel_rfl) HF0 ?_
      refine wpPlan_q rfl rfl rfl ?_; intro K hK
      go_big_quiet_op
      first | go_big_quiet_on | (refine ⟨_, fun _ _ => rfl, ?_⟩; go_big_quiet_on)
      refine wpPlan_q rfl rfl rfl ?_; intro K hK
      refine ⟨(.string st), fun W hW => ?_, ?_⟩
      · have q0 := hW.out
        unfold Oper.quietAt Oper.quietUpon
        simp [go_sem, q0]
      refine hK _ ?_
      clear hK K
      try simp only [Act.put, List.setIfInBounds_toArray, List.set_cons_succ, List.set_cons_zero]
      refine wpPlan_act true rfl rfl rfl ?_; intro K hK
      go_simp
      refine (HSG.out _).mono ?_
      rintro e W2 ⟨rfl, hw2⟩
      subst hw2
      refine hK _ _ (fun _ => HF1) ?_
      clear hK K
      try simp only [Act.put, List.setIfInBounds_toArray, List.set_cons_succ, List.set_cons_zero]
      refine wpPlan_act false rfl rfl rfl ?_; intro K hK
      go_simp
      refine HAM.out.mono ?_
      rintro e W3 ⟨rfl, hw3⟩
      subst hw3
      refine hK _ _ (fun h => by cases h) ?_
      clear hK K
      try simp only [Act.put, List.setIfInBounds_toArray, List.set_cons_succ, List.set_cons_zero]
      refine wpPlan_p rfl rfl rfl ?_; intro K hK
      go_big_quiet_op
      first | go_big_quiet_on | (refine ⟨_, fun _ _ => rfl, ?_⟩; go_big_quiet_on)
      refine wpPlan_fin ?_
      go_wp2_with fail
      go_ret
      exact ⟨rfl, H1.out.1.trans (HB2.out.1.mono H1.out.1.size)⟩
    by_cases hk1 : kd = 1
    · have hk := hk1
      have m1 : ((kd : Int) == 1) = true := by simp [hk]
      have m2 : ((kd : Int) == 2) = false := by simp; omega
      have m3 : ((kd : Int) == 3) = false := by simp; omega
      have m4 : ((kd : Int) == 4) = false := by simp; omega
      obtain ⟨s, hs⟩ : ∃ s, s = st.data.toList := ⟨_, rfl⟩
      have HRK : Hid (R = wordOk s) := Lib.hid (by rw [HR.out]; unfold rightB Tz.tx; dsimp only; rw [hk, hs]; simp [hiv])
      have HST : Hid (st = ⟨s.toArray⟩) := Lib.hid (by rw [hs])
      obtain ⟨n, hn⟩ : ∃ n, n = st.size := ⟨_, rfl⟩
      have hsz : st.size = n := hn.symm
      have HN2 : Hid (s.length = n) := Lib.hid (by rw [hs, hn, Array.length_toList]; rfl)
      have HNE : Hid (n ≠ 0 → (st.toList == []) = false) := Lib.hid (fun h => by
        rw [beq_eq_false_iff_ne]
        intro h2
        rw [ByteArray.toList_eq, ← hs] at h2
        have := HN2.out
        rw [h2] at this
        exact h this.symm)
      have HEQ : Hid (n = 0 → (st.toList == []) = true) := Lib.hid (fun h => by
        rw [beq_iff_eq, ByteArray.toList_eq, ← hs]
        exact List.eq_nil_of_length_eq_zero (by have := HN2.out; omega))
      clear hn hs
      rw [hsz] at ht
      by_cases hn0 : n = 0
      · have e0 := HEQ.out hn0
        have HF : Hid (R = false) := Lib.hid (by rw [HRK.out, List.eq_nil_of_length_eq_zero (l := s) (by have := HN2.out; omega)]; rfl)
        clear hn0
        go_wp2_with fail
        go_ret
        exact ⟨ret_bool (by rw [HF.out]), H1.out.1⟩
      have e0 := HNE.out hn0
      have h0s : 0 < s.length := by have := HN2.out; omega
      obtain ⟨ch, r, hcr⟩ : ∃ c r, s = c :: r := by
        cases s with
        | nil => simp at h0s
        | cons c r => exact ⟨c, r, rfl⟩
      have HWD : Hid (wordOk s = (decide (s.length ≤ 24) && lowB ch && s.all innB)) := Lib.hid (by rw [hcr]; rfl)
      by_cases h24 : 24 < n
      · have dl : decide ((n : Int) > 24) = true := decide_eq_true (by omega)
        have dl' : decide (24 < n) = true := decide_eq_true h24
        have HF : Hid (R = false) := Lib.hid (by rw [HRK.out, HWD.out, decide_eq_false (by have := HN2.out; omega)]; rfl)
        clear hcr h0s hn0
        go_wp2_with fail
        go_ret
        exact ⟨ret_bool (by rw [HF.out]), H1.out.1⟩
      have dl : decide ((n : Int) > 24) = false := decide_eq_false (by omega)
      have dl' : decide (24 < n) = false := decide_eq_false h24
      have h0 : 0 < st.size := by omega
      have hg0 : st[0] = ch := by
        rw [st_get HST.out h0 h0s]
        simp [hcr]
      have HWD2 : Hid (R = (lowB ch && s.all innB)) := Lib.hid (by rw [HRK.out, HWD.out, decide_eq_true (by have := HN2.out; omega), Bool.true_and])
      have n0 : (0 : Int) < (n : Int) := by omega
      clear hcr h0s HWD
      go_wp2_with fail
      refine (low_any ch w1).mono ?_
      rintro e w4 ⟨rfl, hw4⟩
      subst hw4
      cases hlow : lowB ch
      · have HF : Hid (R = false) := Lib.hid (by rw [HWD2.out, hlow]; rfl)
        clear hlow
        go_wp2_with fail
        go_ret
        exact ⟨ret_bool (by rw [HF.out]), H1.out.1⟩
      have HF : Hid (R = s.all innB) := Lib.hid (by rw [HWD2.out, hlow]; rfl)
      obtain ⟨E, hE⟩ : ∃ E, E = scan innB s 0 := ⟨_, rfl⟩
      have HEL : Hid (E ≤ s.length ∧ R = decide (E = n)) := Lib.hid ⟨by rw [hE]; exact scan_le _ _ (Nat.zero_le _), by rw [HF.out, ← scan_all, hE, HN2.out]⟩
      have HWL : Hid (wordL s 0 = .inr (⟨1, cutL s 0 E, 0, 0⟩, E)) := Lib.hid (by unfold wordL; rw [← hE, if_neg (by have := HEL.out.1; have := HN2.out; omega)])
      have HWO : Hid (Calls Tryd.prog 32 #[.string st, .int .i64 0] w4 (ToldPost w4 (.inr (⟨1, cutL s 0 E, 0, 0⟩, E)))) := Lib.hid (by
        have h := word_any s 0 (by have := HN2.out; omega) (Nat.zero_le _) w4
        rw [HWL.out, ← HST.out] at h
        exact h)
      obtain ⟨cx, hcx⟩ : ∃ z, z = (⟨(cutL s 0 E).toArray⟩ : ByteArray) := ⟨_, rfl⟩
      have HTV : Hid (told (.inr (⟨1, cutL s 0 E, 0, 0⟩, E)) = .agg #[.int .u8 1, .string cx, .int .i64 0, .int .i64 0, .int .i64 (E : Nat), .int .i64 0, .int .i64 0]) := Lib.hid (by rw [hcx]; rfl)
      unfold ToldPost at HWO
      rw [HTV.out] at HWO
      clear hlow hg0 h0 hE hcx
      go_wp2_with fail
      refine HWO.out.mono ?_
      rintro e w5 ⟨rfl, hw5⟩
      have HB5 : Hid (Below w.heap.size w w5 ∧ Blk w5 w.heap.size 33 #[.int .u8 (kd : Nat), .string st, .int .i64 iv, .int .i64 pl]) := Lib.hid ⟨H1.out.1.trans (hw5.mono H1.out.1.size), H1.out.2.below hw5 H1.out.2.lt⟩
      clear hw5 k1 k0 k2
      have HB0 : Hid (Blk (w5.alloc (.cells #[.int .u8 0, .string ⟨#[]⟩, .int .i64 0, .int .i64 0, .int .i64 0, .int .i64 0, .int .i64 0] 61)) w5.heap.size 61 #[.int .u8 0, .string ⟨#[]⟩, .int .i64 0, .int .i64 0, .int .i64 0, .int .i64 0, .int .i64 0]) := Lib.hid (Blk.new w5 _ _)
      have HL4 : Hid (Below w5.heap.size w5 (w5.alloc (.cells #[.int .u8 1, .string cx, .int .i64 0, .int .i64 0, .int .i64 (E : Nat), .int .i64 0, .int .i64 0] 61)) ∧ Blk (w5.alloc (.cells #[.int .u8 1, .string cx, .int .i64 0, .int .i64 0, .int .i64 (E : Nat), .int .i64 0, .int .i64 0] 61)) w5.heap.size 61 #[.int .u8 1, .string cx, .int .i64 0, .int .i64 0, .int .i64 (E : Nat), .int .i64 0, .int .i64 0]) := Lib.hid ⟨(Below.refl _ _).alloc (Nat.le_refl _) _, Blk.new _ _ _⟩
      go_upto_region 12 with (first | (refine wpList_store_row rfl 61 (.tmp 3) (.tmp 55) rfl w5.heap.size #[.int .u8 1, .string cx, .int .i64 0, .int .i64 0, .int .i64 (E : Nat), .int .i64 0, .int .i64 0] rfl rfl 61 #[.int .u8 0, .string ⟨#[]⟩, .int .i64 0, .int .i64 0, .int .i64 0, .int .i64 0, .int .i64 0] HB0.out (by kernel_rfl) rfl (by kernel_rfl) ?_; rw [World.setRow_alloc_new]) | fail)
      have HB6 : Hid (Below w.heap.size w (w5.alloc (.cells #[.int .u8 1, .string cx, .int .i64 0, .int .i64 0, .int .i64 (E : Nat), .int .i64 0, .int .i64 0] 61)) ∧ Blk (w5.alloc (.cells #[.int .u8 1, .string cx, .int .i64 0, .int .i64 0, .int .i64 (E : Nat), .int .i64 0, .int .i64 0] 61)) w.heap.size 33 #[.int .u8 (kd : Nat), .string st, .int .i64 iv, .int .i64 pl] ∧ Blk (w5.alloc (.cells #[.int .u8 1, .string cx, .int .i64 0, .int .i64 0, .int .i64 (E : Nat), .int .i64 0, .int .i64 0] 61)) w5.heap.size 61 #[.int .u8 1, .string cx, .int .i64 0, .int .i64 0, .int .i64 (E : Nat), .int .i64 0, .int .i64 0]) := Lib.hid ⟨HB5.out.1.trans (HL4.out.1.mono HB5.out.1.size), HB5.out.2.below HL4.out.1 HB5.out.2.lt, HL4.out.2⟩
      generalize w5.heap.size = b5 at *
      generalize w5.alloc (.cells #[.int .u8 1, .string cx, .int .i64 0, .int .i64 0, .int .i64 (E : Nat), .int .i64 0, .int .i64 0] 61) = w6 at *
      have k1 : w6.cell? ⟨w.heap.size, 1, none⟩ = some (.string st) := HB6.out.2.1.cell 1
      have q4 : w6.cell? ⟨b5, 4, none⟩ = some (.int .i64 (E : Nat)) := HB6.out.2.2.cell 4
      go_wp2_with fail
      go_ret
      exact ⟨ret_bool (by rw [HEL.out.2, Bool.eq_iff_iff, beq_iff_eq, decide_eq_true_eq]; omega), HB6.out.1⟩
    have m1 : ((kd : Int) == 1) = false := by simp; omega
    have m2 : ((kd : Int) == 2) = false := by simp; omega
    have m3 : ((kd : Int) == 3) = false := by simp; omega
    have m4 : ((kd : Int) == 4) = false := by simp; omega
    have HRK : Hid (R = false) := Lib.hid (by rw [HR.out]; unfold rightB; dsimp only; rw [if_neg hk1, if_neg hk2, if_neg hk3, if_neg hk4])
    go_wp2_with fail
    go_ret
    exact ⟨ret_bool (by rw [HRK.out]), H1.out.1⟩
  · have e9 : (iv != 0) = true := by simp [hiv]
    have m2 : ((kd : Int) == 2) = false := by simp; omega
    have HRK : Hid (R = false) := Lib.hid (by rw [HR.out]; unfold rightB; dsimp only; rw [if_neg hk2]; simp [hiv])
    go_wp2_with fail
    go_ret
    exact ⟨ret_bool (by rw [HRK.out]), H1.out.1⟩
end Go.Proofs.YtlfkiaphmifelaaDoor
