/- Contract of the reader's stmt, from the contracts of what stands below. And what follows from it. -/
import Derived.Test.YtbcadlocldplfaaDoorQlb
set_option linter.unusedSimpArgs false
set_option linter.unusedVariables false
namespace Go.Proofs.YtbcadlocldplfaaDoor
open Go.RowKit
set_option maxRecDepth 100000 in
set_option maxHeartbeats 16000000 in
theorem stmt_step (n : Nat) (ih : NtOk n) (g size : Nat) (l : List Tz) (lg : Bool) (w : World) (hr : RdM w g l size lg) (hne : P (n + 1) .stmt l ≠ .out) :
    Calls Tryd.prog 106 #[gp g] w (PPost w g size lg (P (n + 1) .stmt l)) := by
  rw [P] at hne ⊢
  have HS0 : Hid (St w g size lg w l false) := Lib.hid (St.start hr)
  obtain ⟨R, hR⟩ : ∃ R, R = stmtP (P n .expr) (P n .block) l := ⟨_, rfl⟩
  have HNE : Hid (R ≠ .out) := Lib.hid (by rw [hR]; exact hne)
  rw [← hR]
  have HE : Hid (R = (stmtP (P n .expr) (P n .block) l).add false) := Lib.hid (by rw [hR, Pr.add_false])
  clear hR hr hne
  unfold stmtP at HE
  go_enter Tryd.func106, Tryd.ntmps106
  have HA := Lib.hid HS0.out.mine
  rcases Bool.eq_false_or_eq_true (mineT l) with hT | hT
  · rw [hT] at HA
    rw [if_pos hT] at HE
    clear hT
    go_wp2_with fail
    refine HA.out.mono ?_
    rintro e wx ⟨rfl, hw⟩
    rw [hw]
    clear hw wx HA
    have HW := Lib.hid HS0.out.own
    rcases ho : ownP l with _ | l2 | ⟨s1, l1, m1⟩
    · exact absurd ho (own_ne _)
    · rw [ho] at HW HE
      obtain rfl := own_bad ho
      go_wp2_with fail
      refine HW.out.mono ?_
      rintro e w1 ⟨rfl, hp⟩
      have HP := Lib.hid hp
      go_wp2_with fail
      exact ⟨rfl, by rw [HE.out]; exact HP.out⟩
    obtain rfl := own_okm ho
    rw [ho] at HW
    rw [ho, Pr.bind_ok, Pr.add_add, Bool.or_false] at HE
    clear ho
    go_wp2_with fail
    refine HW.out.mono ?_
    rintro e w1 ⟨rfl, hs, hc⟩
    clear HW
    have HS1 : Hid (St w g size lg w1 l1 false) := Lib.hid hs
    clear hs hc HS0
    have HB0 : Hid (Blk (w1.alloc (.cells #[.int .u8 0, .int .i64 0, .int .i64 0, .string ⟨#[]⟩] 42)) w1.heap.size 42 #[.int .u8 0, .int .i64 0, .int .i64 0, .string ⟨#[]⟩]) := Lib.hid (Blk.new w1 _ _)
    go_upto_region 3 with (first | (refine wpList_store_row rfl 42 (.tmp 3) (.tmp 11) rfl w1.heap.size #[.int .u8 5, .int .i64 0, .int .i64 0, .string s1] rfl rfl 42 #[.int .u8 0, .int .i64 0, .int .i64 0, .string ⟨#[]⟩] HB0.out (by kernel_rfl) rfl (by kernel_rfl) ?_; rw [World.setRow_alloc_new]) | fail)
    obtain ⟨b3, hb⟩ : ∃ b, b = w1.heap.size := ⟨_, rfl⟩
    have HS2 : Hid (St w g size lg (w1.alloc (.cells #[.int .u8 5, .int .i64 0, .int .i64 0, .string s1] 42)) l1 false) := Lib.hid (HS1.out.alloc _)
    have Hb3 : Hid (Blk (w1.alloc (.cells #[.int .u8 5, .int .i64 0, .int .i64 0, .string s1] 42)) b3 42 #[.int .u8 5, .int .i64 0, .int .i64 0, .string s1] ∧ b3 ≠ g) := Lib.hid ⟨by rw [hb]; exact Blk.new _ _ _, by rw [hb]; have := HS1.out.chg.size; have := HS1.out.lt; omega⟩
    rw [← hb]
    have HLb3 : Hid (w.heap.size ≤ b3) := Lib.hid (by rw [hb]; exact HS1.out.chg.size)
    clear hb HB0 HS1
    generalize w1.alloc (.cells #[.int .u8 5, .int .i64 0, .int .i64 0, .string s1] 42) = w2 at *
    have HM := Lib.hid (HS2.out.must [61])
    rcases Bool.eq_false_or_eq_true (isT [61] l1) with hT | hT
    rotate_left
    · rw [hT] at HM
      rw [mustP_false hT] at HE
      go_wp2_with fail
      refine HM.out.mono ?_
      rintro e w3 ⟨rfl, hp⟩
      have HP := Lib.hid hp
      go_wp2_with fail
      exact ⟨rfl, by rw [HE.out]; exact HP.out⟩
    rw [hT] at HM
    rw [mustP_true hT, Pr.bind_ok, Pr.add_add, Bool.or_false] at HE
    have HT2 := Lib.hid (isT_len hT)
    clear hT
    go_wp2_with fail
    refine HM.out.mono ?_
    rintro e w3 ⟨rfl, hs, hc⟩
    clear HM
    have HS3 : Hid (St w g size lg w3 l1.tail false) := Lib.hid hs
    have Hb3 : Hid (Blk w3 b3 42 #[.int .u8 5, .int .i64 0, .int .i64 0, .string s1] ∧ b3 ≠ g) := Lib.hid ⟨Hb3.out.1.chg hc Hb3.out.2, Hb3.out.2⟩
    clear hs hc HS2
    go_wp2_with fail
    refine wp_region_planP (.q 0 (.q 1 (.q 2 (.a1 3 (.a1 4 (.a1 5 (.q 6 .fin))))))) 5 (fun W => Blk W b3 42 #[.int .u8 5, .int .i64 0, .int .i64 0, .string s1]) (by kernel_rfl) rfl (by kernel_rfl) Hb3.out.1.drew (by intro c a w d v h; cases d <;> exact h) ?_
    refine wpPlan_q rfl rfl rfl ?_; intro K hK
    go_big_quiet_op
    first | go_big_quiet_on | (refine ⟨_, fun _ _ => rfl, ?_⟩; go_big_quiet_on)
    refine wpPlan_q rfl rfl rfl ?_; intro K hK
    refine quiet_load_row 42 (.tmp 3) rfl b3 rfl 42 #[.int .u8 5, .int .i64 0, .int .i64 0, .string s1] (0, 0) _ (fun W hW => hW) Tryd.underlying42 rfl (by kernel_rfl) ?_
    refine hK _ ?_
    clear hK K
    try simp only [Act.put, List.setIfInBounds_toArray, List.set_cons_succ, List.set_cons_zero]
    refine wpPlan_q rfl rfl rfl ?_; intro K hK
    go_big_quiet_op
    first | go_big_quiet_on | (refine ⟨_, fun _ _ => rfl, ?_⟩; go_big_quiet_on)
    have hs := HS3.out.drew
    have hc : Chg (fun k => k = g) w3 w3.drew := (Chg.refl _ _).drew
    have HS4 : Hid (St w g size lg w3.drew l1.tail false) := Lib.hid hs
    have Hb3 : Hid (Blk w3.drew b3 42 #[.int .u8 5, .int .i64 0, .int .i64 0, .string s1] ∧ b3 ≠ g) := Lib.hid ⟨Hb3.out.1.chg hc Hb3.out.2, Hb3.out.2⟩
    clear hs hc HS3
    refine wpPlan_act true rfl rfl rfl ?_; intro K hK
    go_simp
    have HD := Lib.hid (HS4.out.nt ih .expr (Pr.ne_of HE.out HNE.out))
    obtain ⟨r4, hr4⟩ : ∃ r, r = P n .expr l1.tail := ⟨_, rfl⟩
    rw [← hr4] at HD HE
    have HR4 := Lib.hid hr4
    clear hr4
    refine HD.out.mono ?_
    rcases r4 with _ | l2 | ⟨t5, l5, m5⟩
    · intro e w2 hh
      exact (show False from hh).elim
    · rintro e w5 ⟨rfl, hp⟩
      have hfin : PPost w g size lg R (.panicked [{ v := wrongV (faultAt size l2), recovered := false }]) w5 := by rw [HE.out]; exact hp
      exact And.intro rfl hfin
    rintro e w5 ⟨A5, c5, n5, rfl, hs, ho, hc, hfr⟩
    rw [Pr.bind_ok, Pr.add_add] at HE
    obtain ⟨M5, hM⟩ : ∃ z, z = (false || m5) := ⟨_, rfl⟩
    rw [← hM] at hs HE
    have HO5 := Lib.hid ho
    have HFR5 := Lib.hid hfr
    clear hM ho HD hfr
    have HS5 : Hid (St w g size lg w5 l5 M5) := Lib.hid hs
    have Hb3 : Hid (Blk w5 b3 42 #[.int .u8 5, .int .i64 0, .int .i64 0, .string s1] ∧ b3 ≠ g) := Lib.hid ⟨Hb3.out.1.chg hc Hb3.out.2, Hb3.out.2⟩
    clear hs hc HS4
    refine hK _ _ (fun h => Hb3.out.1) ?_
    clear hK K
    try simp only [Act.put, List.setIfInBounds_toArray, List.set_cons_succ, List.set_cons_zero]
    refine wpPlan_act true rfl rfl rfl ?_; intro K hK
    go_simp
    refine hK _ _ (fun h => Hb3.out.1.alloc _) ?_
    clear hK K
    try simp only [Act.put, List.setIfInBounds_toArray, List.set_cons_succ, List.set_cons_zero]
    have HF := Lib.hid (HS5.out.of1 ⟨5, 0, 0, s1⟩ HO5.out)
    refine wpPlan_act false rfl rfl rfl ?_; intro K hK
    go_simp
    refine HF.out.mono ?_
    intro e w9 hp
    have HP : Hid (PPost w g size lg R e w9) := Lib.hid (by rw [HE.out]; exact hp)
    rcases HP.out.cases with ⟨A9, n9, c9, rfl⟩ | ⟨l9, h9⟩
    · refine hK _ _ (fun h => by cases h) ?_
      clear hK K
      try simp only [Act.put, List.setIfInBounds_toArray, List.set_cons_succ, List.set_cons_zero]
      refine wpPlan_p rfl rfl rfl ?_; intro K hK
      go_big_quiet_op
      first | go_big_quiet_on | (refine ⟨_, fun _ _ => rfl, ?_⟩; go_big_quiet_on)
      refine wpPlan_endP ?_
      go_wp2_with fail
      go_ret
      exact HP.out
    · have HP2 := HP
      unfold thrown at h9
      subst h9
      exact And.intro rfl HP2.out
  rw [hT] at HA
  rw [if_neg (Bool.eq_false_iff.1 hT)] at HE
  clear hT
  go_wp2_with fail
  refine HA.out.mono ?_
  rintro e wx ⟨rfl, hw⟩
  rw [hw]
  clear hw wx HA
  have HA := Lib.hid (HS0.out.has [108, 101, 116])
  rcases Bool.eq_false_or_eq_true (isT [108, 101, 116] l) with hT | hT
  · rw [hT] at HA
    rw [if_pos hT] at HE
    have HT0 := Lib.hid (isT_len hT)
    clear hT
    go_wp2_with fail
    refine HA.out.mono ?_
    rintro e w1 ⟨rfl, hs, hc⟩
    clear HA
    have HS1 : Hid (St w g size lg w1 l.tail false) := Lib.hid hs
    clear hs hc HS0
    have HW := Lib.hid HS1.out.own
    rcases ho : ownP l.tail with _ | l2 | ⟨s2, l2, m2⟩
    · exact absurd ho (own_ne _)
    · rw [ho] at HW HE
      obtain rfl := own_bad ho
      go_wp2_with fail
      refine HW.out.mono ?_
      rintro e w2 ⟨rfl, hp⟩
      have HP := Lib.hid hp
      go_wp2_with fail
      exact ⟨rfl, by rw [HE.out]; exact HP.out⟩
    obtain rfl := own_okm ho
    rw [ho] at HW
    rw [ho, Pr.bind_ok, Pr.add_add, Bool.or_false] at HE
    clear ho
    go_wp2_with fail
    refine HW.out.mono ?_
    rintro e w2 ⟨rfl, hs, hc⟩
    clear HW
    have HS2 : Hid (St w g size lg w2 l2 false) := Lib.hid hs
    clear hs hc HS1
    have HB0 : Hid (Blk (w2.alloc (.cells #[.int .u8 0, .int .i64 0, .int .i64 0, .string ⟨#[]⟩] 42)) w2.heap.size 42 #[.int .u8 0, .int .i64 0, .int .i64 0, .string ⟨#[]⟩]) := Lib.hid (Blk.new w2 _ _)
    go_upto_region 7 with (first | (refine wpList_store_row rfl 42 (.tmp 4) (.tmp 25) rfl w2.heap.size #[.int .u8 4, .int .i64 0, .int .i64 0, .string s2] rfl rfl 42 #[.int .u8 0, .int .i64 0, .int .i64 0, .string ⟨#[]⟩] HB0.out (by kernel_rfl) rfl (by kernel_rfl) ?_; rw [World.setRow_alloc_new]) | fail)
    obtain ⟨b4, hb⟩ : ∃ b, b = w2.heap.size := ⟨_, rfl⟩
    have HS3 : Hid (St w g size lg (w2.alloc (.cells #[.int .u8 4, .int .i64 0, .int .i64 0, .string s2] 42)) l2 false) := Lib.hid (HS2.out.alloc _)
    have Hb4 : Hid (Blk (w2.alloc (.cells #[.int .u8 4, .int .i64 0, .int .i64 0, .string s2] 42)) b4 42 #[.int .u8 4, .int .i64 0, .int .i64 0, .string s2] ∧ b4 ≠ g) := Lib.hid ⟨by rw [hb]; exact Blk.new _ _ _, by rw [hb]; have := HS2.out.chg.size; have := HS2.out.lt; omega⟩
    rw [← hb]
    have HLb4 : Hid (w.heap.size ≤ b4) := Lib.hid (by rw [hb]; exact HS2.out.chg.size)
    clear hb HB0 HS2
    generalize w2.alloc (.cells #[.int .u8 4, .int .i64 0, .int .i64 0, .string s2] 42) = w3 at *
    have HM := Lib.hid (HS3.out.must [61])
    rcases Bool.eq_false_or_eq_true (isT [61] l2) with hT | hT
    rotate_left
    · rw [hT] at HM
      rw [mustP_false hT] at HE
      go_wp2_with fail
      refine HM.out.mono ?_
      rintro e w4 ⟨rfl, hp⟩
      have HP := Lib.hid hp
      go_wp2_with fail
      exact ⟨rfl, by rw [HE.out]; exact HP.out⟩
    rw [hT] at HM
    rw [mustP_true hT, Pr.bind_ok, Pr.add_add, Bool.or_false] at HE
    have HT3 := Lib.hid (isT_len hT)
    clear hT
    go_wp2_with fail
    refine HM.out.mono ?_
    rintro e w4 ⟨rfl, hs, hc⟩
    clear HM
    have HS4 : Hid (St w g size lg w4 l2.tail false) := Lib.hid hs
    have Hb4 : Hid (Blk w4 b4 42 #[.int .u8 4, .int .i64 0, .int .i64 0, .string s2] ∧ b4 ≠ g) := Lib.hid ⟨Hb4.out.1.chg hc Hb4.out.2, Hb4.out.2⟩
    clear hs hc HS3
    go_wp2_with fail
    refine wp_region_planP (.q 0 (.q 1 (.q 2 (.a1 3 (.a1 4 (.a1 5 (.q 6 .fin))))))) 5 (fun W => Blk W b4 42 #[.int .u8 4, .int .i64 0, .int .i64 0, .string s2]) (by kernel_rfl) rfl (by kernel_rfl) Hb4.out.1.drew (by intro c a w d v h; cases d <;> exact h) ?_
    refine wpPlan_q rfl rfl rfl ?_; intro K hK
    go_big_quiet_op
    first | go_big_quiet_on | (refine ⟨_, fun _ _ => rfl, ?_⟩; go_big_quiet_on)
    refine wpPlan_q rfl rfl rfl ?_; intro K hK
    refine quiet_load_row 42 (.tmp 4) rfl b4 rfl 42 #[.int .u8 4, .int .i64 0, .int .i64 0, .string s2] (0, 0) _ (fun W hW => hW) Tryd.underlying42 rfl (by kernel_rfl) ?_
    refine hK _ ?_
    clear hK K
    try simp only [Act.put, List.setIfInBounds_toArray, List.set_cons_succ, List.set_cons_zero]
    refine wpPlan_q rfl rfl rfl ?_; intro K hK
    go_big_quiet_op
    first | go_big_quiet_on | (refine ⟨_, fun _ _ => rfl, ?_⟩; go_big_quiet_on)
    have hs := HS4.out.drew
    have hc : Chg (fun k => k = g) w4 w4.drew := (Chg.refl _ _).drew
    have HS5 : Hid (St w g size lg w4.drew l2.tail false) := Lib.hid hs
    have Hb4 : Hid (Blk w4.drew b4 42 #[.int .u8 4, .int .i64 0, .int .i64 0, .string s2] ∧ b4 ≠ g) := Lib.hid ⟨Hb4.out.1.chg hc Hb4.out.2, Hb4.out.2⟩
    clear hs hc HS4
    refine wpPlan_act true rfl rfl rfl ?_; intro K hK
    go_simp
    have HD := Lib.hid (HS5.out.nt ih .expr (Pr.ne_of HE.out HNE.out))
    obtain ⟨r5, hr5⟩ : ∃ r, r = P n .expr l2.tail := ⟨_, rfl⟩
    rw [← hr5] at HD HE
    have HR5 := Lib.hid hr5
    clear hr5
    refine HD.out.mono ?_
    rcases r5 with _ | l2 | ⟨t6, l6, m6⟩
    · intro e w2 hh
      exact (show False from hh).elim
    · rintro e w6 ⟨rfl, hp⟩
      have hfin : PPost w g size lg R (.panicked [{ v := wrongV (faultAt size l2), recovered := false }]) w6 := by rw [HE.out]; exact hp
      exact And.intro rfl hfin
    rintro e w6 ⟨A6, c6, n6, rfl, hs, ho, hc, hfr⟩
    rw [Pr.bind_ok, Pr.add_add] at HE
    obtain ⟨M6, hM⟩ : ∃ z, z = (false || m6) := ⟨_, rfl⟩
    rw [← hM] at hs HE
    have HO6 := Lib.hid ho
    have HFR6 := Lib.hid hfr
    clear hM ho HD hfr
    have HS6 : Hid (St w g size lg w6 l6 M6) := Lib.hid hs
    have Hb4 : Hid (Blk w6 b4 42 #[.int .u8 4, .int .i64 0, .int .i64 0, .string s2] ∧ b4 ≠ g) := Lib.hid ⟨Hb4.out.1.chg hc Hb4.out.2, Hb4.out.2⟩
    clear hs hc HS5
    refine hK _ _ (fun h => Hb4.out.1) ?_
    clear hK K
    try simp only [Act.put, List.setIfInBounds_toArray, List.set_cons_succ, List.set_cons_zero]
    refine wpPlan_act true rfl rfl rfl ?_; intro K hK
    go_simp
    refine hK _ _ (fun h => Hb4.out.1.alloc _) ?_
    clear hK K
    try simp only [Act.put, List.setIfInBounds_toArray, List.set_cons_succ, List.set_cons_zero]
    have HF := Lib.hid (HS6.out.of1 ⟨4, 0, 0, s2⟩ HO6.out)
    refine wpPlan_act false rfl rfl rfl ?_; intro K hK
    go_simp
    refine HF.out.mono ?_
    intro e w9 hp
    have HP : Hid (PPost w g size lg R e w9) := Lib.hid (by rw [HE.out]; exact hp)
    rcases HP.out.cases with ⟨A9, n9, c9, rfl⟩ | ⟨l9, h9⟩
    · refine hK _ _ (fun h => by cases h) ?_
      clear hK K
      try simp only [Act.put, List.setIfInBounds_toArray, List.set_cons_succ, List.set_cons_zero]
      refine wpPlan_p rfl rfl rfl ?_; intro K hK
      go_big_quiet_op
      first | go_big_quiet_on | (refine ⟨_, fun _ _ => rfl, ?_⟩; go_big_quiet_on)
      refine wpPlan_endP ?_
      go_wp2_with fail
      go_ret
      exact HP.out
    · have HP2 := HP
      unfold thrown at h9
      subst h9
      exact And.intro rfl HP2.out
  rw [hT] at HA
  rw [if_neg (Bool.eq_false_iff.1 hT)] at HE
  clear hT
  go_wp2_with fail
  refine HA.out.mono ?_
  rintro e w1 ⟨rfl, hs, hc⟩
  clear HA
  have HS1 : Hid (St w g size lg w1 l false) := Lib.hid hs
  clear hs hc HS0
  have HA := Lib.hid (HS1.out.has [105, 102])
  rcases Bool.eq_false_or_eq_true (isT [105, 102] l) with hT | hT
  · rw [hT] at HA
    rw [if_pos hT] at HE
    have HT1 := Lib.hid (isT_len hT)
    clear hT
    go_wp2_with fail
    refine HA.out.mono ?_
    rintro e w2 ⟨rfl, hs, hc⟩
    clear HA
    have HS2 : Hid (St w g size lg w2 l.tail false) := Lib.hid hs
    clear hs hc HS1
    have HD := Lib.hid (HS2.out.nt ih .expr (Pr.ne_of HE.out HNE.out))
    obtain ⟨r2, hr2⟩ : ∃ r, r = P n .expr l.tail := ⟨_, rfl⟩
    rw [← hr2] at HD HE
    have HR2 := Lib.hid hr2
    clear hr2
    go_wp2_with fail
    refine HD.out.mono ?_
    rcases r2 with _ | l2 | ⟨t3, l3, m3⟩
    · intro e w2 hh
      exact (show False from hh).elim
    · rintro e w3 ⟨rfl, hp⟩
      have HP := Lib.hid hp
      go_wp2_with fail
      exact ⟨rfl, by rw [HE.out]; exact HP.out⟩
    rintro e w3 ⟨A3, c3, n3, rfl, hs, ho, hc, hfr⟩
    rw [Pr.bind_ok, Pr.add_add] at HE
    obtain ⟨M3, hM⟩ : ∃ z, z = (false || m3) := ⟨_, rfl⟩
    rw [← hM] at hs HE
    have HO3 := Lib.hid ho
    have HFR3 := Lib.hid hfr
    clear hM ho HD hfr
    have HS3 : Hid (St w g size lg w3 l3 M3) := Lib.hid hs
    clear hs hc HS2
    have HD := Lib.hid (HS3.out.nt ih .block (Pr.ne_of HE.out HNE.out))
    obtain ⟨r3, hr3⟩ : ∃ r, r = P n .block l3 := ⟨_, rfl⟩
    rw [← hr3] at HD HE
    have HR3 := Lib.hid hr3
    clear hr3
    go_wp2_with fail
    refine HD.out.mono ?_
    rcases r3 with _ | l2 | ⟨t4, l4, m4⟩
    · intro e w2 hh
      exact (show False from hh).elim
    · rintro e w4 ⟨rfl, hp⟩
      have HP := Lib.hid hp
      go_wp2_with fail
      exact ⟨rfl, by rw [HE.out]; exact HP.out⟩
    rintro e w4 ⟨A4, c4, n4, rfl, hs, ho, hc, hfr⟩
    rw [Pr.bind_ok, Pr.add_add] at HE
    obtain ⟨M4, hM⟩ : ∃ z, z = (M3 || m4) := ⟨_, rfl⟩
    rw [← hM] at hs HE
    have HO4 := Lib.hid ho
    have HFR4 := Lib.hid hfr
    clear hM ho HD hfr
    have HS4 : Hid (St w g size lg w4 l4 M4) := Lib.hid hs
    have HO3 : Hid (Ow w w4 A3 n3 c3 t3) := Lib.hid (HO3.out.chg hc HS3.out.lt)
    clear hs hc HS3
    have HT2 : Hid (TsR w.heap.size (w4.alloc (.cells #[.slice A3 n3 c3, .slice A4 n4 c4] 23)) (some ⟨w4.heap.size, 0, none⟩) 2 2 [t3, t4] ∧ St w g size lg (w4.alloc (.cells #[.slice A3 n3 c3, .slice A4 n4 c4] 23)) l4 M4 ∧ ∀ t ∈ [t3, t4], t.length ≤ 2048) := Lib.hid ⟨TsR.two HO3.out HO4.out HS4.out.chg.size, HS4.out.alloc _, fun t ht => by
      simp only [List.mem_cons, List.not_mem_nil, or_false] at ht
      rcases ht with rfl | rfl
      · exact HO3.out.small
      · exact HO4.out.small⟩
    go_upto_region 11 with fail
    obtain ⟨bl, hbl⟩ : ∃ b, b = w4.heap.size := ⟨_, rfl⟩
    rw [← hbl] at HT2 ⊢
    clear hbl HS4
    generalize w4.alloc (.cells #[.slice A3 n3 c3, .slice A4 n4 c4] 23) = w5 at *
    have HS5 := Lib.hid HT2.out.2.1
    have HRW := Lib.hid HT2.out.1
    have HSM := Lib.hid HT2.out.2.2
    have HA := Lib.hid (HS5.out.has [101, 108, 115, 101])
    rcases Bool.eq_false_or_eq_true (isT [101, 108, 115, 101] l4) with hT | hT
    · rw [hT] at HA
      rw [if_pos hT] at HE
      have HT5 := Lib.hid (isT_len hT)
      clear hT
      go_wp2_with fail
      refine HA.out.mono ?_
      rintro e w6 ⟨rfl, hs, hc⟩
      clear HA
      have HS6 : Hid (St w g size lg w6 l4.tail M4) := Lib.hid hs
      have HRW : Hid (TsR w.heap.size w6 (some ⟨bl, 0, none⟩) 2 2 [t3, t4]) := Lib.hid (HRW.out.go hc HS5.out.lt)
      clear hs hc HS5
      have HRW0 := HRW
      have HD := Lib.hid (HS6.out.nt ih .block (Pr.ne_of HE.out HNE.out))
      obtain ⟨r6, hr6⟩ : ∃ r, r = P n .block l4.tail := ⟨_, rfl⟩
      rw [← hr6] at HD HE
      have HR6 := Lib.hid hr6
      clear hr6
      go_wp2_with fail
      refine HD.out.mono ?_
      rcases r6 with _ | l2 | ⟨t7, l7, m7⟩
      · intro e w2 hh
        exact (show False from hh).elim
      · rintro e w7 ⟨rfl, hp⟩
        have HP := Lib.hid hp
        go_wp2_with fail
        exact ⟨rfl, by rw [HE.out]; exact HP.out⟩
      rintro e w7 ⟨A7, c7, n7, rfl, hs, ho, hc, hfr⟩
      rw [Pr.bind_ok, Pr.add_add] at HE
      obtain ⟨M7, hM⟩ : ∃ z, z = (M4 || m7) := ⟨_, rfl⟩
      rw [← hM] at hs HE
      have HO7 := Lib.hid ho
      have HFR7 := Lib.hid hfr
      clear hM ho HD hfr
      have HS7 : Hid (St w g size lg w7 l7 M7) := Lib.hid hs
      have HRW : Hid (TsR w.heap.size w7 (some ⟨bl, 0, none⟩) 2 2 [t3, t4]) := Lib.hid (HRW.out.go hc HS6.out.lt)
      clear hs hc HS6
      have HX : Hid (TsR w.heap.size (w7.alloc (.cells #[.slice A7 n7 c7] 23)) (some ⟨bl, 0, none⟩) 2 2 [t3, t4] ∧ RdT w.heap.size (w7.alloc (.cells #[.slice A7 n7 c7] 23)) A7 t7 ∧ (∀ a, A7 = some a → (Value.slice (some ⟨bl, 0, none⟩) 2 2).ownBlock ≠ some a.block ∧ a.block < (w7.alloc (.cells #[.slice A7 n7 c7] 23)).heap.size) ∧ (w7.alloc (.cells #[.slice A7 n7 c7] 23)).heap[w7.heap.size]? = some (.cells #[.slice A7 t7.length c7] 23 (0, 0))) := Lib.hid (by
        have hal : Below w7.heap.size w7 (w7.alloc (.cells #[.slice A7 n7 c7] 23)) := (Below.refl _ _).alloc (Nat.le_refl _) _
        refine ⟨HRW.out.below hal, HO7.out.rdt.below hal, fun a ha => ⟨fun he => ?_, Nat.lt_of_lt_of_le (HFR7.out a ha).2 hal.size⟩, by rw [HO7.out.len]; exact heap_alloc_new w7 _⟩
        obtain ⟨_, vs, h6, _⟩ := HRW0.out
        have h7 := (World.ownsRow.lt h6 _ he).2
        have h8 := (HFR7.out a ha).1
        omega)
      go_upto_region 13 with (at_builtin; refine wpList_app_tree rfl (.tmp 44) (.tmp 47) rfl w.heap.size w7.heap.size 2 2 (some ⟨bl, 0, none⟩) [t3, t4] A7 c7 t7 rfl HX.out.1 rfl HX.out.2.2.2 HX.out.2.1 HX.out.2.2.1 (by omega) (by have := HS7.out.chg.size; simp; omega) ?_; intro A6 c6 wy ht6 hg6; have H6 := Lib.hid (And.intro ht6 hg6); clear ht6 hg6)
      have HSY : Hid (St w g size lg wy l7 M7 ∧ ∀ t ∈ [t3, t4] ++ [t7], t.length ≤ 2048) := Lib.hid (by
        have hgr : Chg (fun k => (Value.slice (some ⟨bl, 0, none⟩) 2 2).ownBlock = some k) (w7.alloc (.cells #[.slice A7 n7 c7] 23)) wy := .of_grown H6.out.2 (fun r hr => hr)
        have hblk : ∀ k, (Value.slice (some ⟨bl, 0, none⟩) 2 2).ownBlock = some k → w.heap.size ≤ k := fun k hk => by
          obtain ⟨_, vs, h6, _⟩ := HX.out.1
          exact (World.ownsRow.lt h6 _ hk).1
        have hlt := HS7.out.lt
        refine ⟨⟨(HS7.out.alloc _).chg.thn hgr (fun k hk hk2 => by have := hblk k hk2; omega), (HS7.out.alloc _).rd.chg hgr (fun k _ hk => by have := hblk k hk; omega), hlt⟩, fun t ht => ?_⟩
        rcases List.mem_append.1 ht with h | h
        · exact HSM.out t h
        · rw [List.mem_singleton] at h
          subst h
          exact HO7.out.small)
      have HF := Lib.hid (HSY.out.1.ofs (tw 6) H6.out.1 (by omega) HSY.out.2)
      go_wp2_with fail
      refine HF.out.mono ?_
      intro e w9 hp
      have HP : Hid (PPost w g size lg R e w9) := Lib.hid (by rw [HE.out]; exact hp)
      rcases HP.out.cases with ⟨A9, n9, c9, rfl⟩ | ⟨l9, h9⟩
      · go_wp2_with fail
        go_ret
        exact HP.out
      · have HP2 := HP
        unfold thrown at h9
        subst h9
        go_wp2_with fail
        exact ⟨rfl, HP2.out⟩
    rw [hT] at HA
    rw [if_neg (Bool.eq_false_iff.1 hT)] at HE
    clear hT
    go_wp2_with fail
    refine HA.out.mono ?_
    rintro e w6 ⟨rfl, hs, hc⟩
    clear HA
    have HS6 : Hid (St w g size lg w6 l4 M4) := Lib.hid hs
    have HRW : Hid (TsR w.heap.size w6 (some ⟨bl, 0, none⟩) 2 2 [t3, t4]) := Lib.hid (HRW.out.go hc HS5.out.lt)
    clear hs hc HS5
    have HF := Lib.hid (HS6.out.ofs (tw 6) HRW.out (by omega) HSM.out)
    go_wp2_with fail
    refine HF.out.mono ?_
    intro e w9 hp
    have HP : Hid (PPost w g size lg R e w9) := Lib.hid (by rw [HE.out]; exact hp)
    rcases HP.out.cases with ⟨A9, n9, c9, rfl⟩ | ⟨l9, h9⟩
    · go_wp2_with fail
      go_ret
      exact HP.out
    · have HP2 := HP
      unfold thrown at h9
      subst h9
      go_wp2_with fail
      exact ⟨rfl, HP2.out⟩
  rw [hT] at HA
  rw [if_neg (Bool.eq_false_iff.1 hT)] at HE
  clear hT
  go_wp2_with fail
  refine HA.out.mono ?_
  rintro e w2 ⟨rfl, hs, hc⟩
  clear HA
  have HS2 : Hid (St w g size lg w2 l false) := Lib.hid hs
  clear hs hc HS1
  have HA := Lib.hid (HS2.out.has [119, 104, 105, 108, 101])
  rcases Bool.eq_false_or_eq_true (isT [119, 104, 105, 108, 101] l) with hT | hT
  · rw [hT] at HA
    rw [if_pos hT] at HE
    have HT2 := Lib.hid (isT_len hT)
    clear hT
    go_wp2_with fail
    refine HA.out.mono ?_
    rintro e w3 ⟨rfl, hs, hc⟩
    clear HA
    have HS3 : Hid (St w g size lg w3 l.tail false) := Lib.hid hs
    clear hs hc HS2
    have HD := Lib.hid (HS3.out.nt ih .expr (Pr.ne_of HE.out HNE.out))
    obtain ⟨r3, hr3⟩ : ∃ r, r = P n .expr l.tail := ⟨_, rfl⟩
    rw [← hr3] at HD HE
    have HR3 := Lib.hid hr3
    clear hr3
    go_wp2_with fail
    refine HD.out.mono ?_
    rcases r3 with _ | l2 | ⟨t4, l4, m4⟩
    · intro e w2 hh
      exact (show False from hh).elim
    · rintro e w4 ⟨rfl, hp⟩
      have HP := Lib.hid hp
      go_wp2_with fail
      exact ⟨rfl, by rw [HE.out]; exact HP.out⟩
    rintro e w4 ⟨A4, c4, n4, rfl, hs, ho, hc, hfr⟩
    rw [Pr.bind_ok, Pr.add_add] at HE
    obtain ⟨M4, hM⟩ : ∃ z, z = (false || m4) := ⟨_, rfl⟩
    rw [← hM] at hs HE
    have HO4 := Lib.hid ho
    have HFR4 := Lib.hid hfr
    clear hM ho HD hfr
    have HS4 : Hid (St w g size lg w4 l4 M4) := Lib.hid hs
    clear hs hc HS3
    have HD := Lib.hid (HS4.out.nt ih .block (Pr.ne_of HE.out HNE.out))
    obtain ⟨r4, hr4⟩ : ∃ r, r = P n .block l4 := ⟨_, rfl⟩
    rw [← hr4] at HD HE
    have HR4 := Lib.hid hr4
    clear hr4
    go_wp2_with fail
    refine HD.out.mono ?_
    rcases r4 with _ | l2 | ⟨t5, l5, m5⟩
    · intro e w2 hh
      exact (show False from hh).elim
    · rintro e w5 ⟨rfl, hp⟩
      have HP := Lib.hid hp
      go_wp2_with fail
      exact ⟨rfl, by rw [HE.out]; exact HP.out⟩
    rintro e w5 ⟨A5, c5, n5, rfl, hs, ho, hc, hfr⟩
    rw [Pr.bind_ok, Pr.add_add] at HE
    obtain ⟨M5, hM⟩ : ∃ z, z = (M4 || m5) := ⟨_, rfl⟩
    rw [← hM] at hs HE
    have HO5 := Lib.hid ho
    have HFR5 := Lib.hid hfr
    clear hM ho HD hfr
    have HS5 : Hid (St w g size lg w5 l5 M5) := Lib.hid hs
    have HO4 : Hid (Ow w w5 A4 n4 c4 t4) := Lib.hid (HO4.out.chg hc HS4.out.lt)
    clear hs hc HS4
    have HF := Lib.hid (HS5.out.of2 (tw 7) HO4.out HO5.out)
    go_wp2_with fail
    refine HF.out.mono ?_
    intro e w9 hp
    have HP : Hid (PPost w g size lg R e w9) := Lib.hid (by rw [HE.out]; exact hp)
    rcases HP.out.cases with ⟨A9, n9, c9, rfl⟩ | ⟨l9, h9⟩
    · go_wp2_with fail
      go_ret
      exact HP.out
    · have HP2 := HP
      unfold thrown at h9
      subst h9
      go_wp2_with fail
      exact ⟨rfl, HP2.out⟩
  rw [hT] at HA
  rw [if_neg (Bool.eq_false_iff.1 hT)] at HE
  clear hT
  go_wp2_with fail
  refine HA.out.mono ?_
  rintro e w3 ⟨rfl, hs, hc⟩
  clear HA
  have HS3 : Hid (St w g size lg w3 l false) := Lib.hid hs
  clear hs hc HS2
  have HA := Lib.hid (HS3.out.has [114, 101, 116, 117, 114, 110])
  rcases Bool.eq_false_or_eq_true (isT [114, 101, 116, 117, 114, 110] l) with hT | hT
  · rw [hT] at HA
    rw [if_pos hT] at HE
    have HT3 := Lib.hid (isT_len hT)
    clear hT
    go_wp2_with fail
    refine HA.out.mono ?_
    rintro e w4 ⟨rfl, hs, hc⟩
    clear HA
    have HS4 : Hid (St w g size lg w4 l.tail false) := Lib.hid hs
    clear hs hc HS3
    have HD := Lib.hid (HS4.out.nt ih .expr (Pr.ne_of HE.out HNE.out))
    obtain ⟨r4, hr4⟩ : ∃ r, r = P n .expr l.tail := ⟨_, rfl⟩
    rw [← hr4] at HD HE
    have HR4 := Lib.hid hr4
    clear hr4
    go_wp2_with fail
    refine HD.out.mono ?_
    rcases r4 with _ | l2 | ⟨t5, l5, m5⟩
    · intro e w2 hh
      exact (show False from hh).elim
    · rintro e w5 ⟨rfl, hp⟩
      have HP := Lib.hid hp
      go_wp2_with fail
      exact ⟨rfl, by rw [HE.out]; exact HP.out⟩
    rintro e w5 ⟨A5, c5, n5, rfl, hs, ho, hc, hfr⟩
    rw [Pr.bind_ok, Pr.add_add] at HE
    obtain ⟨M5, hM⟩ : ∃ z, z = (false || m5) := ⟨_, rfl⟩
    rw [← hM] at hs HE
    have HO5 := Lib.hid ho
    have HFR5 := Lib.hid hfr
    clear hM ho HD hfr
    have HS5 : Hid (St w g size lg w5 l5 M5) := Lib.hid hs
    clear hs hc HS4
    have HF := Lib.hid (HS5.out.of1 (tw 8) HO5.out)
    go_wp2_with fail
    refine HF.out.mono ?_
    intro e w9 hp
    have HP : Hid (PPost w g size lg R e w9) := Lib.hid (by rw [HE.out]; exact hp)
    rcases HP.out.cases with ⟨A9, n9, c9, rfl⟩ | ⟨l9, h9⟩
    · go_wp2_with fail
      go_ret
      exact HP.out
    · have HP2 := HP
      unfold thrown at h9
      subst h9
      go_wp2_with fail
      exact ⟨rfl, HP2.out⟩
  rw [hT] at HA
  rw [if_neg (Bool.eq_false_iff.1 hT)] at HE
  clear hT
  go_wp2_with fail
  refine HA.out.mono ?_
  rintro e w4 ⟨rfl, hs, hc⟩
  clear HA
  have HS4 : Hid (St w g size lg w4 l false) := Lib.hid hs
  clear hs hc HS3
  have HA := Lib.hid (HS4.out.has [102, 97, 105, 108])
  rcases Bool.eq_false_or_eq_true (isT [102, 97, 105, 108] l) with hT | hT
  · rw [hT] at HA
    rw [if_pos hT] at HE
    have HT4 := Lib.hid (isT_len hT)
    clear hT
    go_wp2_with fail
    refine HA.out.mono ?_
    rintro e w5 ⟨rfl, hs, hc⟩
    clear HA
    have HS5 : Hid (St w g size lg w5 l.tail false) := Lib.hid hs
    clear hs hc HS4
    have HD := Lib.hid (HS5.out.nt ih .expr (Pr.ne_of HE.out HNE.out))
    obtain ⟨r5, hr5⟩ : ∃ r, r = P n .expr l.tail := ⟨_, rfl⟩
    rw [← hr5] at HD HE
    have HR5 := Lib.hid hr5
    clear hr5
    go_wp2_with fail
    refine HD.out.mono ?_
    rcases r5 with _ | l2 | ⟨t6, l6, m6⟩
    · intro e w2 hh
      exact (show False from hh).elim
    · rintro e w6 ⟨rfl, hp⟩
      have HP := Lib.hid hp
      go_wp2_with fail
      exact ⟨rfl, by rw [HE.out]; exact HP.out⟩
    rintro e w6 ⟨A6, c6, n6, rfl, hs, ho, hc, hfr⟩
    rw [Pr.bind_ok, Pr.add_add] at HE
    obtain ⟨M6, hM⟩ : ∃ z, z = (false || m6) := ⟨_, rfl⟩
    rw [← hM] at hs HE
    have HO6 := Lib.hid ho
    have HFR6 := Lib.hid hfr
    clear hM ho HD hfr
    have HS6 : Hid (St w g size lg w6 l6 M6) := Lib.hid hs
    clear hs hc HS5
    have HF := Lib.hid (HS6.out.of1 (tw 9) HO6.out)
    go_wp2_with fail
    refine HF.out.mono ?_
    intro e w9 hp
    have HP : Hid (PPost w g size lg R e w9) := Lib.hid (by rw [HE.out]; exact hp)
    rcases HP.out.cases with ⟨A9, n9, c9, rfl⟩ | ⟨l9, h9⟩
    · go_wp2_with fail
      go_ret
      exact HP.out
    · have HP2 := HP
      unfold thrown at h9
      subst h9
      go_wp2_with fail
      exact ⟨rfl, HP2.out⟩
  rw [hT] at HA
  rw [if_neg (Bool.eq_false_iff.1 hT)] at HE
  clear hT
  go_wp2_with fail
  refine HA.out.mono ?_
  rintro e w5 ⟨rfl, hs, hc⟩
  clear HA
  have HS5 : Hid (St w g size lg w5 l false) := Lib.hid hs
  clear hs hc HS4
  have HA := Lib.hid (HS5.out.has [115, 108, 101, 101, 112])
  rcases Bool.eq_false_or_eq_true (isT [115, 108, 101, 101, 112] l) with hT | hT
  · rw [hT] at HA
    rw [if_pos hT] at HE
    have HT5 := Lib.hid (isT_len hT)
    clear hT
    go_wp2_with fail
    refine HA.out.mono ?_
    rintro e w6 ⟨rfl, hs, hc⟩
    clear HA
    have HS6 : Hid (St w g size lg w6 l.tail false) := Lib.hid hs
    clear hs hc HS5
    have HD := Lib.hid (HS6.out.nt ih .expr (Pr.ne_of HE.out HNE.out))
    obtain ⟨r6, hr6⟩ : ∃ r, r = P n .expr l.tail := ⟨_, rfl⟩
    rw [← hr6] at HD HE
    have HR6 := Lib.hid hr6
    clear hr6
    go_wp2_with fail
    refine HD.out.mono ?_
    rcases r6 with _ | l2 | ⟨t7, l7, m7⟩
    · intro e w2 hh
      exact (show False from hh).elim
    · rintro e w7 ⟨rfl, hp⟩
      have HP := Lib.hid hp
      go_wp2_with fail
      exact ⟨rfl, by rw [HE.out]; exact HP.out⟩
    rintro e w7 ⟨A7, c7, n7, rfl, hs, ho, hc, hfr⟩
    rw [Pr.bind_ok, Pr.add_add] at HE
    obtain ⟨M7, hM⟩ : ∃ z, z = (false || m7) := ⟨_, rfl⟩
    rw [← hM] at hs HE
    have HO7 := Lib.hid ho
    have HFR7 := Lib.hid hfr
    clear hM ho HD hfr
    have HS7 : Hid (St w g size lg w7 l7 M7) := Lib.hid hs
    clear hs hc HS6
    have HF := Lib.hid (HS7.out.of1 (tw 10) HO7.out)
    go_wp2_with fail
    refine HF.out.mono ?_
    intro e w9 hp
    have HP : Hid (PPost w g size lg R e w9) := Lib.hid (by rw [HE.out]; exact hp)
    rcases HP.out.cases with ⟨A9, n9, c9, rfl⟩ | ⟨l9, h9⟩
    · go_wp2_with fail
      go_ret
      exact HP.out
    · have HP2 := HP
      unfold thrown at h9
      subst h9
      go_wp2_with fail
      exact ⟨rfl, HP2.out⟩
  rw [hT] at HA
  rw [if_neg (Bool.eq_false_iff.1 hT)] at HE
  clear hT
  go_wp2_with fail
  refine HA.out.mono ?_
  rintro e w6 ⟨rfl, hs, hc⟩
  clear HA
  have HS6 : Hid (St w g size lg w6 l false) := Lib.hid hs
  clear hs hc HS5
  have HA := Lib.hid (HS6.out.has [100, 111])
  rcases Bool.eq_false_or_eq_true (isT [100, 111] l) with hT | hT
  · rw [hT] at HA
    rw [if_pos hT] at HE
    have HT6 := Lib.hid (isT_len hT)
    clear hT
    go_wp2_with fail
    refine HA.out.mono ?_
    rintro e w7 ⟨rfl, hs, hc⟩
    clear HA
    have HS7 : Hid (St w g size lg w7 l.tail false) := Lib.hid hs
    clear hs hc HS6
    have HD := Lib.hid (HS7.out.nt ih .expr (Pr.ne_of HE.out HNE.out))
    obtain ⟨r7, hr7⟩ : ∃ r, r = P n .expr l.tail := ⟨_, rfl⟩
    rw [← hr7] at HD HE
    have HR7 := Lib.hid hr7
    clear hr7
    go_wp2_with fail
    refine HD.out.mono ?_
    rcases r7 with _ | l2 | ⟨t8, l8, m8⟩
    · intro e w2 hh
      exact (show False from hh).elim
    · rintro e w8 ⟨rfl, hp⟩
      have HP := Lib.hid hp
      go_wp2_with fail
      exact ⟨rfl, by rw [HE.out]; exact HP.out⟩
    rintro e w8 ⟨A8, c8, n8, rfl, hs, ho, hc, hfr⟩
    rw [Pr.bind_ok, Pr.add_add] at HE
    obtain ⟨M8, hM⟩ : ∃ z, z = (false || m8) := ⟨_, rfl⟩
    rw [← hM] at hs HE
    have HO8 := Lib.hid ho
    have HFR8 := Lib.hid hfr
    clear hM ho HD hfr
    have HS8 : Hid (St w g size lg w8 l8 M8) := Lib.hid hs
    clear hs hc HS7
    have HF := Lib.hid (HS8.out.of1 (tw 11) HO8.out)
    go_wp2_with fail
    refine HF.out.mono ?_
    intro e w9 hp
    have HP : Hid (PPost w g size lg R e w9) := Lib.hid (by rw [HE.out]; exact hp)
    rcases HP.out.cases with ⟨A9, n9, c9, rfl⟩ | ⟨l9, h9⟩
    · go_wp2_with fail
      go_ret
      exact HP.out
    · have HP2 := HP
      unfold thrown at h9
      subst h9
      go_wp2_with fail
      exact ⟨rfl, HP2.out⟩
  rw [hT] at HA
  rw [if_neg (Bool.eq_false_iff.1 hT)] at HE
  clear hT
  go_wp2_with fail
  refine HA.out.mono ?_
  rintro e w7 ⟨rfl, hs, hc⟩
  clear HA
  have HS7 : Hid (St w g size lg w7 l false) := Lib.hid hs
  clear hs hc HS6
  have HF := Lib.hid HS7.out.fault
  go_wp2_with fail
  refine HF.out.mono ?_
  rintro e w9 ⟨rfl, hp⟩
  have HP := Lib.hid hp
  go_wp2_with fail
  exact ⟨rfl, by rw [HE.out]; exact HP.out⟩
set_option maxRecDepth 100000 in
set_option maxHeartbeats 32000000 in
theorem prim_step (n : Nat) (ih : NtOk n) (g size : Nat) (l : List Tz) (lg : Bool) (w : World) (hr : RdM w g l size lg) (hne : P (n + 1) .prim l ≠ .out) :
    Calls Tryd.prog 137 #[gp g] w (PPost w g size lg (P (n + 1) .prim l)) := by
  have hmf : ∀ (fn : Fn) (first cap : Array Value) (w : World), (Instr.makeFunc fn first cap).run Tryd.prog w = .ok (.func fn first cap) w := fun _ _ _ _ => rfl
  rw [P] at hne ⊢
  cases l with
  | nil =>
    obtain ⟨A0, c0, k0⟩ := hr.nil_cell
    have HS0 : Hid (St w g size lg w [] false) := Lib.hid (St.start hr)
    obtain ⟨R, hR⟩ : ∃ R, R = primP (P n .expr) (P n .block) n [] := ⟨_, rfl⟩
    rw [← hR]
    have HE : Hid (R = .bad []) := Lib.hid hR
    clear hR hr hne
    go_enter Tryd.func137, Tryd.ntmps137
    have HF := Lib.hid HS0.out.fault
    go_wp2_with fail
    refine HF.out.mono ?_
    rintro e w9 ⟨rfl, hp⟩
    have HP := Lib.hid hp
    go_wp2_with fail
    exact ⟨rfl, by rw [HE.out]; exact HP.out⟩
  | cons x r =>
    obtain ⟨b, off, c, k0, k1, k2, k3, k4⟩ := hr.head
    have HRG : Hid (w.rangeAt b off (zcell x)) := Lib.hid (fun jj u hu => by
      match jj, hu with
      | 0, hu => obtain rfl : _ = u := by simpa [zcell] using hu
                 exact k1
      | 1, hu => obtain rfl : _ = u := by simpa [zcell] using hu
                 exact k2
      | 2, hu => obtain rfl : _ = u := by simpa [zcell] using hu
                 exact k3
      | 3, hu => obtain rfl : _ = u := by simpa [zcell] using hu
                 exact k4
      | jj + 4, hu => simp [zcell] at hu)
    obtain ⟨n0, hn0⟩ : ∃ n, n = r.length := ⟨_, rfl⟩
    have HN0 := Lib.hid hn0
    rw [← hn0] at k0
    clear k1 k2 k3 k4 hn0
    have HRD := Lib.hid hr
    have HS0 : Hid (St w g size lg w (x :: r) false) := Lib.hid (St.start hr)
    obtain ⟨R, hR⟩ : ∃ R, R = primP (P n .expr) (P n .block) n (x :: r) := ⟨_, rfl⟩
    have HNE : Hid (R ≠ .out) := Lib.hid (by rw [hR]; exact hne)
    rw [← hR]
    have HE : Hid (R = (if x.kind = 2 then Pr.ok [⟨23, 0, x.int, bs []⟩] r false else if x.kind = 3 then .ok [⟨24, 0, 0, x.text⟩] r false else if mineT (x :: r) then .ok [⟨26, 0, 0, x.text⟩] r false else wordP (P n .expr) (P n .block) n (x :: r)).add false) := Lib.hid (by rw [hR, Pr.add_false]; rfl)
    clear hR hr hne
    obtain ⟨y, hy⟩ : ∃ y, y = x := ⟨_, rfl⟩
    obtain ⟨kd, tx, iv, pl⟩ := y
    have HXY : Hid (x = ⟨kd, tx, iv, pl⟩) := Lib.hid hy.symm
    rw [← hy] at HRG
    clear hy
    dsimp only [zcell] at HRG
    have HB0 : Hid (Blk (w.alloc (.cells #[.int .u8 0, .string ⟨#[]⟩, .int .i64 0, .int .i64 0] 35)) w.heap.size 35 #[.int .u8 0, .string ⟨#[]⟩, .int .i64 0, .int .i64 0]) := Lib.hid (Blk.new w _ _)
    go_enter Tryd.func137, Tryd.ntmps137
    go_upto_region 4 with (first | (refine wpList_load_mid rfl 35 (.tmp 20) rfl b off rfl [.int .u8 (kd : Nat), .string tx, .int .i64 iv, .int .i64 (pl : Nat)] (.struct _) HRG.out Tryd.underlying35 rfl (by kernel_rfl) ?_) | (refine wpList_store_row rfl 35 (.tmp 3) (.tmp 21) rfl w.heap.size #[.int .u8 (kd : Nat), .string tx, .int .i64 iv, .int .i64 (pl : Nat)] rfl rfl 35 #[.int .u8 0, .string ⟨#[]⟩, .int .i64 0, .int .i64 0] HB0.out (by kernel_rfl) rfl (by kernel_rfl) ?_; rw [World.setRow_alloc_new]) | fail)
    obtain ⟨b3, hb3⟩ : ∃ b, b = w.heap.size := ⟨_, rfl⟩
    have HS1 : Hid (St w g size lg (w.alloc (.cells #[.int .u8 (kd : Nat), .string tx, .int .i64 iv, .int .i64 (pl : Nat)] 35)) (x :: r) false) := Lib.hid (HS0.out.alloc _)
    have HB3 : Hid (Blk (w.alloc (.cells #[.int .u8 (kd : Nat), .string tx, .int .i64 iv, .int .i64 (pl : Nat)] 35)) b3 35 #[.int .u8 (kd : Nat), .string tx, .int .i64 iv, .int .i64 (pl : Nat)] ∧ b3 ≠ g) := Lib.hid ⟨by rw [hb3]; exact Blk.new w _ _, by rw [hb3]; have := HS0.out.lt; omega⟩
    rw [← hb3]
    clear HB0 HRG hb3 k0
    generalize w.alloc (.cells #[.int .u8 (kd : Nat), .string tx, .int .i64 iv, .int .i64 (pl : Nat)] 35) = w1 at *
    have q0 : w1.cell? ⟨b3, 0, none⟩ = some (.int .u8 (kd : Nat)) := HB3.out.1.cell 0
    have HPS : Hid (∃ A c, w1.cell? ⟨g, 0, none⟩ = some (.slice A (n0 + 1) c) ∧ n0 + 1 ≤ c ∧ w1.frozen? ⟨g, 0, none⟩ = false ∧ St w g size lg (w1.setCell ⟨g, 0, none⟩ (.slice (if c = 1 then A else A.map (·.add (1 * 4))) n0 (c - 1))) r false ∧ Blk (w1.setCell ⟨g, 0, none⟩ (.slice (if c = 1 then A else A.map (·.add (1 * 4))) n0 (c - 1))) b3 35 #[.int .u8 (kd : Nat), .string tx, .int .i64 iv, .int .i64 (pl : Nat)]) := Lib.hid (by
      obtain ⟨A, c, h1, h2, h3⟩ := HS1.out.rd.pass
      rw [← HN0.out] at h1 h2 h3
      refine ⟨A, c, h1, h2, ?_, HS1.out.step (chg_self _ _ _ _) h3, HB3.out.1.chg (chg_self _ _ _ _) HB3.out.2⟩
      obtain ⟨A2, c2, h4, _⟩ := HS1.out.rd
      exact h4.frozen 0)
    have HKD : Hid (x.kind = kd ∧ x.text = tx ∧ x.int = iv) := Lib.hid (by rw [HXY.out]; exact ⟨rfl, rfl, rfl⟩)
    clear HRD HS0
    by_cases h2 : kd = 2
    · have m2 : ((kd : Int) == 2) = true := by simp [h2]
      rw [if_pos (HKD.out.1.trans h2), HKD.out.2.2] at HE
      clear h2
      obtain ⟨A, c, p0, p1, f0, hs, hbk⟩ := HPS.out
      have hsl := fun W => slice_tail A n0 c p1 W
      obtain ⟨A2, hA2⟩ : ∃ z, z = (if c = 1 then A else A.map (·.add (1 * 4))) := ⟨_, rfl⟩
      obtain ⟨c1, hc1⟩ : ∃ z, z = c - 1 := ⟨_, rfl⟩
      rw [← hA2, ← hc1] at hs hbk hsl
      have HS2 := Lib.hid (And.intro hs hbk)
      clear hA2 hc1 hs hbk p1 HPS
      go_upto_region 7 with fail
      generalize w1.setCell ⟨g, 0, none⟩ (.slice A2 n0 c1) = w2 at *
      have q2 : w2.cell? ⟨b3, 2, none⟩ = some (.int .i64 iv) := HS2.out.2.cell 2
      have HP : Hid (PPost w g size lg R _ _) := Lib.hid ((HS2.out.1.lit ⟨23, 0, iv, bs []⟩).end_ HE.out)
      clear HE hsl p0 f0
      go_wp2_with fail
      go_ret
      exact HP.out
    · have m2 : ((kd : Int) == 2) = false := by simp; omega
      rw [if_neg (fun h => h2 (HKD.out.1.symm.trans h))] at HE
      clear h2
      by_cases h3 : kd = 3
      · have m3 : ((kd : Int) == 3) = true := by simp [h3]
        rw [if_pos (HKD.out.1.trans h3), HKD.out.2.1] at HE
        clear h3
        obtain ⟨A, c, p0, p1, f0, hs, hbk⟩ := HPS.out
        have hsl := fun W => slice_tail A n0 c p1 W
        obtain ⟨A2, hA2⟩ : ∃ z, z = (if c = 1 then A else A.map (·.add (1 * 4))) := ⟨_, rfl⟩
        obtain ⟨c1, hc1⟩ : ∃ z, z = c - 1 := ⟨_, rfl⟩
        rw [← hA2, ← hc1] at hs hbk hsl
        have HS2 := Lib.hid (And.intro hs hbk)
        clear hA2 hc1 hs hbk p1 HPS
        go_upto_region 10 with fail
        generalize w1.setCell ⟨g, 0, none⟩ (.slice A2 n0 c1) = w2 at *
        have q2 : w2.cell? ⟨b3, 1, none⟩ = some (.string tx) := HS2.out.2.cell 1
        have HP : Hid (PPost w g size lg R _ _) := Lib.hid ((HS2.out.1.lit ⟨24, 0, 0, tx⟩).end_ HE.out)
        clear HE hsl p0 f0
        go_wp2_with fail
        go_ret
        exact HP.out
      · have m3 : ((kd : Int) == 3) = false := by simp; omega
        rw [if_neg (fun h => h3 (HKD.out.1.symm.trans h))] at HE
        clear h3
        clear HPS
        obtain ⟨l, hl⟩ : ∃ l, l = x :: r := ⟨_, rfl⟩
        have HLX := Lib.hid hl
        rw [← hl] at HS1 HE
        clear hl
        have HA := Lib.hid HS1.out.mine
        cases hT : mineT l with
        | true =>
          have HMI := Lib.hid hT
          rw [hT] at HA
          rw [if_pos hT] at HE
          clear hT
          go_wp2_with fail
          refine HA.out.mono ?_
          rintro e wx ⟨rfl, hw⟩
          rw [hw]
          clear hw wx HA
          have HW := Lib.hid HS1.out.own
          have ho : ownP l = .ok tx r false := by
            unfold ownP
            rw [HMI.out, HLX.out]
            show Pr.ok x.text r false = _
            rw [HKD.out.2.1]
          rw [ho] at HW
          rw [HKD.out.2.1] at HE
          clear ho
          go_wp2_with fail
          refine HW.out.mono ?_
          rintro e w2 ⟨rfl, hs, hc⟩
          clear HW
          have HS2 : Hid (St w g size lg w2 r false) := Lib.hid hs
          clear hs hc HS1
          have HP : Hid (PPost w g size lg R _ _) := Lib.hid ((HS2.out.lit ⟨26, 0, 0, tx⟩).end_ HE.out)
          clear HE
          go_wp2_with fail
          go_ret
          exact HP.out
        | false =>
          rw [hT] at HA
          rw [if_neg (Bool.eq_false_iff.1 hT)] at HE
          clear hT
          go_wp2_with fail
          refine HA.out.mono ?_
          rintro e wx ⟨rfl, hw⟩
          rw [hw]
          clear hw wx HA HLX HKD HXY HB3 HN0
          unfold wordP at HE
          have HA := Lib.hid (HS1.out.has [110, 111, 110, 101])
          rcases Bool.eq_false_or_eq_true (isT [110, 111, 110, 101] l) with hT | hT
          · rw [hT] at HA
            rw [if_pos hT] at HE
            have HT1 := Lib.hid (isT_len hT)
            clear hT
            go_wp2_with fail
            refine HA.out.mono ?_
            rintro e w2 ⟨rfl, hs, hc⟩
            clear HA
            have HS2 : Hid (St w g size lg w2 l.tail false) := Lib.hid hs
            clear hs hc HS1
            have HP : Hid (PPost w g size lg R _ _) := Lib.hid ((HS2.out.lit (tw 20)).end_ HE.out)
            clear HE
            go_wp2_with fail
            go_ret
            exact HP.out
          rw [hT] at HA
          rw [if_neg (Bool.eq_false_iff.1 hT)] at HE
          clear hT
          go_wp2_with fail
          refine HA.out.mono ?_
          rintro e w2 ⟨rfl, hs, hc⟩
          clear HA
          have HS2 : Hid (St w g size lg w2 l false) := Lib.hid hs
          clear hs hc HS1
          have HA := Lib.hid (HS2.out.has [116, 114, 117, 101])
          rcases Bool.eq_false_or_eq_true (isT [116, 114, 117, 101] l) with hT | hT
          · rw [hT] at HA
            rw [if_pos hT] at HE
            have HT2 := Lib.hid (isT_len hT)
            clear hT
            go_wp2_with fail
            refine HA.out.mono ?_
            rintro e w3 ⟨rfl, hs, hc⟩
            clear HA
            have HS3 : Hid (St w g size lg w3 l.tail false) := Lib.hid hs
            clear hs hc HS2
            have HP : Hid (PPost w g size lg R _ _) := Lib.hid ((HS3.out.lit (tw 21)).end_ HE.out)
            clear HE
            go_wp2_with fail
            go_ret
            exact HP.out
          rw [hT] at HA
          rw [if_neg (Bool.eq_false_iff.1 hT)] at HE
          clear hT
          go_wp2_with fail
          refine HA.out.mono ?_
          rintro e w3 ⟨rfl, hs, hc⟩
          clear HA
          have HS3 : Hid (St w g size lg w3 l false) := Lib.hid hs
          clear hs hc HS2
          have HA := Lib.hid (HS3.out.has [102, 97, 108, 115, 101])
          rcases Bool.eq_false_or_eq_true (isT [102, 97, 108, 115, 101] l) with hT | hT
          · rw [hT] at HA
            rw [if_pos hT] at HE
            have HT3 := Lib.hid (isT_len hT)
            clear hT
            go_wp2_with fail
            refine HA.out.mono ?_
            rintro e w4 ⟨rfl, hs, hc⟩
            clear HA
            have HS4 : Hid (St w g size lg w4 l.tail false) := Lib.hid hs
            clear hs hc HS3
            have HP : Hid (PPost w g size lg R _ _) := Lib.hid ((HS4.out.lit (tw 22)).end_ HE.out)
            clear HE
            go_wp2_with fail
            go_ret
            exact HP.out
          rw [hT] at HA
          rw [if_neg (Bool.eq_false_iff.1 hT)] at HE
          clear hT
          go_wp2_with fail
          refine HA.out.mono ?_
          rintro e w4 ⟨rfl, hs, hc⟩
          clear HA
          have HS4 : Hid (St w g size lg w4 l false) := Lib.hid hs
          clear hs hc HS3
          have HA := Lib.hid (HS4.out.has [118, 101, 114, 115, 105, 111, 110])
          rcases Bool.eq_false_or_eq_true (isT [118, 101, 114, 115, 105, 111, 110] l) with hT | hT
          · rw [hT] at HA
            rw [if_pos hT] at HE
            have HT4 := Lib.hid (isT_len hT)
            clear hT
            go_wp2_with fail
            refine HA.out.mono ?_
            rintro e w5 ⟨rfl, hs, hc⟩
            clear HA
            have HS5 : Hid (St w g size lg w5 l.tail false) := Lib.hid hs
            clear hs hc HS4
            have HP : Hid (PPost w g size lg R _ _) := Lib.hid ((HS5.out.lit (tw 57)).end_ HE.out)
            clear HE
            go_wp2_with fail
            go_ret
            exact HP.out
          rw [hT] at HA
          rw [if_neg (Bool.eq_false_iff.1 hT)] at HE
          clear hT
          go_wp2_with fail
          refine HA.out.mono ?_
          rintro e w5 ⟨rfl, hs, hc⟩
          clear HA
          have HS5 : Hid (St w g size lg w5 l false) := Lib.hid hs
          clear hs hc HS4
          have HA := Lib.hid (HS5.out.has [91])
          rcases Bool.eq_false_or_eq_true (isT [91] l) with hT | hT
          · rw [hT] at HA
            rw [if_pos hT] at HE
            have HT5 := Lib.hid (isT_len hT)
            clear hT
            go_wp2_with fail
            refine HA.out.mono ?_
            rintro e w6 ⟨rfl, hs, hc⟩
            clear HA
            have HS6 : Hid (St w g size lg w6 l.tail false) := Lib.hid hs
            clear hs hc HS5
            have HD := Lib.hid (HS6.out.list 33 #[gp g] #[] (P n .expr) (P_len n .expr) [93] (fun _ _ => rfl) (ih.reads .expr g size _) (Pr.ne_of HE.out HNE.out))
            obtain ⟨r6, hr6⟩ : ∃ r, r = lisP (P n .expr) [93] n l.tail := ⟨_, rfl⟩
            rw [← hr6] at HD HE
            clear hr6
            go_wp2_with fail
            refine HD.out.mono ?_
            rcases r6 with _ | l2 | ⟨ts7, l7, m7⟩
            · intro e w2 hh
              exact (show False from hh).elim
            · rintro e w7 ⟨rfl, hp⟩
              have HP := Lib.hid hp
              go_wp2_with fail
              exact ⟨rfl, by rw [HE.out]; exact HP.out⟩
            rintro e w7 ⟨A7, c7, n7, rfl, hs, ho, hk, hts, hc⟩
            rw [Pr.bind_ok, Pr.add_add] at HE
            obtain ⟨M7, hM⟩ : ∃ z, z = (false || m7) := ⟨_, rfl⟩
            rw [← hM] at hs HE
            have HO7 := Lib.hid ho
            have HQ7 := Lib.hid hts
            clear hM ho HD hts
            have HS7 : Hid (St w g size lg w7 l7 M7) := Lib.hid hs
            clear hs hc HS6
            have HF := Lib.hid (HS7.out.ofs (tw 25) HO7.out (by omega) HQ7.out)
            go_wp2_with fail
            refine HF.out.mono ?_
            intro e w9 hp
            have HP : Hid (PPost w g size lg R e w9) := Lib.hid (by rw [HE.out]; exact hp)
            rcases HP.out.cases with ⟨A9, n9, c9, rfl⟩ | ⟨l9, h9⟩
            · go_wp2_with fail
              go_ret
              exact HP.out
            · have HP2 := HP
              unfold thrown at h9
              subst h9
              go_wp2_with fail
              exact ⟨rfl, HP2.out⟩
          rw [hT] at HA
          rw [if_neg (Bool.eq_false_iff.1 hT)] at HE
          clear hT
          go_wp2_with fail
          refine HA.out.mono ?_
          rintro e w6 ⟨rfl, hs, hc⟩
          clear HA
          have HS6 : Hid (St w g size lg w6 l false) := Lib.hid hs
          clear hs hc HS5
          have HA := Lib.hid (HS6.out.has [40])
          rcases Bool.eq_false_or_eq_true (isT [40] l) with hT | hT
          · rw [hT] at HA
            rw [if_pos hT] at HE
            have HT6 := Lib.hid (isT_len hT)
            clear hT
            go_wp2_with fail
            refine HA.out.mono ?_
            rintro e w7 ⟨rfl, hs, hc⟩
            clear HA
            have HS7 : Hid (St w g size lg w7 l.tail false) := Lib.hid hs
            clear hs hc HS6
            have HD := Lib.hid (HS7.out.nt ih .expr (Pr.ne_of HE.out HNE.out))
            obtain ⟨r7, hr7⟩ : ∃ r, r = P n .expr l.tail := ⟨_, rfl⟩
            rw [← hr7] at HD HE
            have HR7 := Lib.hid hr7
            clear hr7
            go_wp2_with fail
            refine HD.out.mono ?_
            rcases r7 with _ | l2 | ⟨t8, l8, m8⟩
            · intro e w2 hh
              exact (show False from hh).elim
            · rintro e w8 ⟨rfl, hp⟩
              have HP := Lib.hid hp
              go_wp2_with fail
              exact ⟨rfl, by rw [HE.out]; exact HP.out⟩
            rintro e w8 ⟨A8, c8, n8, rfl, hs, ho, hc, hfr⟩
            rw [Pr.bind_ok, Pr.add_add] at HE
            obtain ⟨M8, hM⟩ : ∃ z, z = (false || m8) := ⟨_, rfl⟩
            rw [← hM] at hs HE
            have HO8 := Lib.hid ho
            have HFR8 := Lib.hid hfr
            clear hM ho HD hfr
            have HS8 : Hid (St w g size lg w8 l8 M8) := Lib.hid hs
            clear hs hc HS7
            have HM := Lib.hid (HS8.out.must [41])
            rcases Bool.eq_false_or_eq_true (isT [41] l8) with hT | hT
            rotate_left
            · rw [hT] at HM
              rw [mustP_false hT] at HE
              go_wp2_with fail
              refine HM.out.mono ?_
              rintro e w9 ⟨rfl, hp⟩
              have HP := Lib.hid hp
              go_wp2_with fail
              exact ⟨rfl, by rw [HE.out]; exact HP.out⟩
            rw [hT] at HM
            rw [mustP_true hT, Pr.bind_ok, Pr.add_add, Bool.or_false] at HE
            have HT8 := Lib.hid (isT_len hT)
            clear hT
            go_wp2_with fail
            refine HM.out.mono ?_
            rintro e w9 ⟨rfl, hs, hc⟩
            clear HM
            have HS9 : Hid (St w g size lg w9 l8.tail M8) := Lib.hid hs
            have HO8 : Hid (Ow w w9 A8 n8 c8 t8) := Lib.hid (HO8.out.chg hc HS8.out.lt)
            clear hs hc HS8
            have HP : Hid (PPost w g size lg R _ _) := Lib.hid ((HS9.out.same HO8.out).end_ HE.out)
            clear HE
            go_wp2_with fail
            go_ret
            exact HP.out
          rw [hT] at HA
          rw [if_neg (Bool.eq_false_iff.1 hT)] at HE
          clear hT
          go_wp2_with fail
          refine HA.out.mono ?_
          rintro e w7 ⟨rfl, hs, hc⟩
          clear HA
          have HS7 : Hid (St w g size lg w7 l false) := Lib.hid hs
          clear hs hc HS6
          have HA := Lib.hid (HS7.out.has [108, 101, 110])
          rcases Bool.eq_false_or_eq_true (isT [108, 101, 110] l) with hT | hT
          · rw [hT] at HA
            rw [if_pos hT] at HE
            have HT7 := Lib.hid (isT_len hT)
            clear hT
            go_wp2_with fail
            refine HA.out.mono ?_
            rintro e w8 ⟨rfl, hs, hc⟩
            clear HA
            have HS8 : Hid (St w g size lg w8 l.tail false) := Lib.hid hs
            clear hs hc HS7
            have hne : oneP (P n .expr) 45 l.tail ≠ .out := fun h => HNE.out (by rw [HE.out, h]; rfl)
            have HF := Lib.hid ((one_any n 45 ih g size _ _ _ HS8.out.rd hne).mono fun e w2 hp => PPost.of_chg HS8.out.chg hp.add)
            go_wp2_with fail
            refine HF.out.mono ?_
            intro e w9 hp
            have HP : Hid (PPost w g size lg R e w9) := Lib.hid (by rw [HE.out]; exact hp)
            rcases HP.out.cases with ⟨A9, n9, c9, rfl⟩ | ⟨l9, h9⟩
            · go_wp2_with fail
              go_ret
              exact HP.out
            · have HP2 := HP
              unfold thrown at h9
              subst h9
              go_wp2_with fail
              exact ⟨rfl, HP2.out⟩
          rw [hT] at HA
          rw [if_neg (Bool.eq_false_iff.1 hT)] at HE
          clear hT
          go_wp2_with fail
          refine HA.out.mono ?_
          rintro e w8 ⟨rfl, hs, hc⟩
          clear HA
          have HS8 : Hid (St w g size lg w8 l false) := Lib.hid hs
          clear hs hc HS7
          have HA := Lib.hid (HS8.out.has [114, 101])
          rcases Bool.eq_false_or_eq_true (isT [114, 101] l) with hT | hT
          · rw [hT] at HA
            rw [if_pos hT] at HE
            have HT8 := Lib.hid (isT_len hT)
            clear hT
            go_wp2_with fail
            refine HA.out.mono ?_
            rintro e w9 ⟨rfl, hs, hc⟩
            clear HA
            have HS9 : Hid (St w g size lg w9 l.tail false) := Lib.hid hs
            clear hs hc HS8
            have hne : oneP (P n .expr) 46 l.tail ≠ .out := fun h => HNE.out (by rw [HE.out, h]; rfl)
            have HF := Lib.hid ((one_any n 46 ih g size _ _ _ HS9.out.rd hne).mono fun e w2 hp => PPost.of_chg HS9.out.chg hp.add)
            go_wp2_with fail
            refine HF.out.mono ?_
            intro e w9 hp
            have HP : Hid (PPost w g size lg R e w9) := Lib.hid (by rw [HE.out]; exact hp)
            rcases HP.out.cases with ⟨A9, n9, c9, rfl⟩ | ⟨l9, h9⟩
            · go_wp2_with fail
              go_ret
              exact HP.out
            · have HP2 := HP
              unfold thrown at h9
              subst h9
              go_wp2_with fail
              exact ⟨rfl, HP2.out⟩
          rw [hT] at HA
          rw [if_neg (Bool.eq_false_iff.1 hT)] at HE
          clear hT
          go_wp2_with fail
          refine HA.out.mono ?_
          rintro e w9 ⟨rfl, hs, hc⟩
          clear HA
          have HS9 : Hid (St w g size lg w9 l false) := Lib.hid hs
          clear hs hc HS8
          have HA := Lib.hid (HS9.out.has [105, 109])
          rcases Bool.eq_false_or_eq_true (isT [105, 109] l) with hT | hT
          · rw [hT] at HA
            rw [if_pos hT] at HE
            have HT9 := Lib.hid (isT_len hT)
            clear hT
            go_wp2_with fail
            refine HA.out.mono ?_
            rintro e w10 ⟨rfl, hs, hc⟩
            clear HA
            have HS10 : Hid (St w g size lg w10 l.tail false) := Lib.hid hs
            clear hs hc HS9
            have hne : oneP (P n .expr) 47 l.tail ≠ .out := fun h => HNE.out (by rw [HE.out, h]; rfl)
            have HF := Lib.hid ((one_any n 47 ih g size _ _ _ HS10.out.rd hne).mono fun e w2 hp => PPost.of_chg HS10.out.chg hp.add)
            go_wp2_with fail
            refine HF.out.mono ?_
            intro e w9 hp
            have HP : Hid (PPost w g size lg R e w9) := Lib.hid (by rw [HE.out]; exact hp)
            rcases HP.out.cases with ⟨A9, n9, c9, rfl⟩ | ⟨l9, h9⟩
            · go_wp2_with fail
              go_ret
              exact HP.out
            · have HP2 := HP
              unfold thrown at h9
              subst h9
              go_wp2_with fail
              exact ⟨rfl, HP2.out⟩
          rw [hT] at HA
          rw [if_neg (Bool.eq_false_iff.1 hT)] at HE
          clear hT
          go_wp2_with fail
          refine HA.out.mono ?_
          rintro e w10 ⟨rfl, hs, hc⟩
          clear HA
          have HS10 : Hid (St w g size lg w10 l false) := Lib.hid hs
          clear hs hc HS9
          have HA := Lib.hid (HS10.out.has [99, 111, 110, 106])
          rcases Bool.eq_false_or_eq_true (isT [99, 111, 110, 106] l) with hT | hT
          · rw [hT] at HA
            rw [if_pos hT] at HE
            have HT10 := Lib.hid (isT_len hT)
            clear hT
            go_wp2_with fail
            refine HA.out.mono ?_
            rintro e w11 ⟨rfl, hs, hc⟩
            clear HA
            have HS11 : Hid (St w g size lg w11 l.tail false) := Lib.hid hs
            clear hs hc HS10
            have hne : oneP (P n .expr) 48 l.tail ≠ .out := fun h => HNE.out (by rw [HE.out, h]; rfl)
            have HF := Lib.hid ((one_any n 48 ih g size _ _ _ HS11.out.rd hne).mono fun e w2 hp => PPost.of_chg HS11.out.chg hp.add)
            go_wp2_with fail
            refine HF.out.mono ?_
            intro e w9 hp
            have HP : Hid (PPost w g size lg R e w9) := Lib.hid (by rw [HE.out]; exact hp)
            rcases HP.out.cases with ⟨A9, n9, c9, rfl⟩ | ⟨l9, h9⟩
            · go_wp2_with fail
              go_ret
              exact HP.out
            · have HP2 := HP
              unfold thrown at h9
              subst h9
              go_wp2_with fail
              exact ⟨rfl, HP2.out⟩
          rw [hT] at HA
          rw [if_neg (Bool.eq_false_iff.1 hT)] at HE
          clear hT
          go_wp2_with fail
          refine HA.out.mono ?_
          rintro e w11 ⟨rfl, hs, hc⟩
          clear HA
          have HS11 : Hid (St w g size lg w11 l false) := Lib.hid hs
          clear hs hc HS10
          have HA := Lib.hid (HS11.out.has [116, 105, 109, 101, 114])
          rcases Bool.eq_false_or_eq_true (isT [116, 105, 109, 101, 114] l) with hT | hT
          · rw [hT] at HA
            rw [if_pos hT] at HE
            have HT11 := Lib.hid (isT_len hT)
            clear hT
            go_wp2_with fail
            refine HA.out.mono ?_
            rintro e w12 ⟨rfl, hs, hc⟩
            clear HA
            have HS12 : Hid (St w g size lg w12 l.tail false) := Lib.hid hs
            clear hs hc HS11
            have hne : oneP (P n .expr) 52 l.tail ≠ .out := fun h => HNE.out (by rw [HE.out, h]; rfl)
            have HF := Lib.hid ((one_any n 52 ih g size _ _ _ HS12.out.rd hne).mono fun e w2 hp => PPost.of_chg HS12.out.chg hp.add)
            go_wp2_with fail
            refine HF.out.mono ?_
            intro e w9 hp
            have HP : Hid (PPost w g size lg R e w9) := Lib.hid (by rw [HE.out]; exact hp)
            rcases HP.out.cases with ⟨A9, n9, c9, rfl⟩ | ⟨l9, h9⟩
            · go_wp2_with fail
              go_ret
              exact HP.out
            · have HP2 := HP
              unfold thrown at h9
              subst h9
              go_wp2_with fail
              exact ⟨rfl, HP2.out⟩
          rw [hT] at HA
          rw [if_neg (Bool.eq_false_iff.1 hT)] at HE
          clear hT
          go_wp2_with fail
          refine HA.out.mono ?_
          rintro e w12 ⟨rfl, hs, hc⟩
          clear HA
          have HS12 : Hid (St w g size lg w12 l false) := Lib.hid hs
          clear hs hc HS11
          have HA := Lib.hid (HS12.out.has [110, 117, 109])
          rcases Bool.eq_false_or_eq_true (isT [110, 117, 109] l) with hT | hT
          · rw [hT] at HA
            rw [if_pos hT] at HE
            have HT12 := Lib.hid (isT_len hT)
            clear hT
            go_wp2_with fail
            refine HA.out.mono ?_
            rintro e w13 ⟨rfl, hs, hc⟩
            clear HA
            have HS13 : Hid (St w g size lg w13 l.tail false) := Lib.hid hs
            clear hs hc HS12
            have HM := Lib.hid (HS13.out.must [40])
            rcases Bool.eq_false_or_eq_true (isT [40] l.tail) with hT | hT
            rotate_left
            · rw [hT] at HM
              rw [mustP_false hT] at HE
              go_wp2_with fail
              refine HM.out.mono ?_
              rintro e w14 ⟨rfl, hp⟩
              have HP := Lib.hid hp
              go_wp2_with fail
              exact ⟨rfl, by rw [HE.out]; exact HP.out⟩
            rw [hT] at HM
            rw [mustP_true hT, Pr.bind_ok, Pr.add_add, Bool.or_false] at HE
            have HT13 := Lib.hid (isT_len hT)
            clear hT
            go_wp2_with fail
            refine HM.out.mono ?_
            rintro e w14 ⟨rfl, hs, hc⟩
            clear HM
            have HS14 : Hid (St w g size lg w14 (l.tail).tail false) := Lib.hid hs
            clear hs hc HS13
            have HD := Lib.hid (HS14.out.nt ih .expr (Pr.ne_of HE.out HNE.out))
            obtain ⟨r14, hr14⟩ : ∃ r, r = P n .expr (l.tail).tail := ⟨_, rfl⟩
            rw [← hr14] at HD HE
            have HR14 := Lib.hid hr14
            clear hr14
            go_wp2_with fail
            refine HD.out.mono ?_
            rcases r14 with _ | l2 | ⟨t15, l15, m15⟩
            · intro e w2 hh
              exact (show False from hh).elim
            · rintro e w15 ⟨rfl, hp⟩
              have HP := Lib.hid hp
              go_wp2_with fail
              exact ⟨rfl, by rw [HE.out]; exact HP.out⟩
            rintro e w15 ⟨A15, c15, n15, rfl, hs, ho, hc, hfr⟩
            rw [Pr.bind_ok, Pr.add_add] at HE
            obtain ⟨M15, hM⟩ : ∃ z, z = (false || m15) := ⟨_, rfl⟩
            rw [← hM] at hs HE
            have HO15 := Lib.hid ho
            have HFR15 := Lib.hid hfr
            clear hM ho HD hfr
            have HS15 : Hid (St w g size lg w15 l15 M15) := Lib.hid hs
            clear hs hc HS14
            have HM := Lib.hid (HS15.out.must [44])
            rcases Bool.eq_false_or_eq_true (isT [44] l15) with hT | hT
            rotate_left
            · rw [hT] at HM
              rw [mustP_false hT] at HE
              go_wp2_with fail
              refine HM.out.mono ?_
              rintro e w16 ⟨rfl, hp⟩
              have HP := Lib.hid hp
              go_wp2_with fail
              exact ⟨rfl, by rw [HE.out]; exact HP.out⟩
            rw [hT] at HM
            rw [mustP_true hT, Pr.bind_ok, Pr.add_add, Bool.or_false] at HE
            have HT15 := Lib.hid (isT_len hT)
            clear hT
            go_wp2_with fail
            refine HM.out.mono ?_
            rintro e w16 ⟨rfl, hs, hc⟩
            clear HM
            have HS16 : Hid (St w g size lg w16 l15.tail M15) := Lib.hid hs
            have HO15 : Hid (Ow w w16 A15 n15 c15 t15) := Lib.hid (HO15.out.chg hc HS15.out.lt)
            clear hs hc HS15
            have HD := Lib.hid (HS16.out.nt ih .expr (Pr.ne_of HE.out HNE.out))
            obtain ⟨r16, hr16⟩ : ∃ r, r = P n .expr l15.tail := ⟨_, rfl⟩
            rw [← hr16] at HD HE
            have HR16 := Lib.hid hr16
            clear hr16
            go_wp2_with fail
            refine HD.out.mono ?_
            rcases r16 with _ | l2 | ⟨t17, l17, m17⟩
            · intro e w2 hh
              exact (show False from hh).elim
            · rintro e w17 ⟨rfl, hp⟩
              have HP := Lib.hid hp
              go_wp2_with fail
              exact ⟨rfl, by rw [HE.out]; exact HP.out⟩
            rintro e w17 ⟨A17, c17, n17, rfl, hs, ho, hc, hfr⟩
            rw [Pr.bind_ok, Pr.add_add] at HE
            obtain ⟨M17, hM⟩ : ∃ z, z = (M15 || m17) := ⟨_, rfl⟩
            rw [← hM] at hs HE
            have HO17 := Lib.hid ho
            have HFR17 := Lib.hid hfr
            clear hM ho HD hfr
            have HS17 : Hid (St w g size lg w17 l17 M17) := Lib.hid hs
            have HO15 : Hid (Ow w w17 A15 n15 c15 t15) := Lib.hid (HO15.out.chg hc HS16.out.lt)
            clear hs hc HS16
            have HM := Lib.hid (HS17.out.must [41])
            rcases Bool.eq_false_or_eq_true (isT [41] l17) with hT | hT
            rotate_left
            · rw [hT] at HM
              rw [mustP_false hT] at HE
              go_wp2_with fail
              refine HM.out.mono ?_
              rintro e w18 ⟨rfl, hp⟩
              have HP := Lib.hid hp
              go_wp2_with fail
              exact ⟨rfl, by rw [HE.out]; exact HP.out⟩
            rw [hT] at HM
            rw [mustP_true hT, Pr.bind_ok, Pr.add_add, Bool.or_false] at HE
            have HT17 := Lib.hid (isT_len hT)
            clear hT
            go_wp2_with fail
            refine HM.out.mono ?_
            rintro e w18 ⟨rfl, hs, hc⟩
            clear HM
            have HS18 : Hid (St w g size lg w18 l17.tail M17) := Lib.hid hs
            have HO15 : Hid (Ow w w18 A15 n15 c15 t15) := Lib.hid (HO15.out.chg hc HS17.out.lt)
            have HO17 : Hid (Ow w w18 A17 n17 c17 t17) := Lib.hid (HO17.out.chg hc HS17.out.lt)
            clear hs hc HS17
            have HF := Lib.hid (HS18.out.of2 (tw 41) HO15.out HO17.out)
            go_wp2_with fail
            refine HF.out.mono ?_
            intro e w9 hp
            have HP : Hid (PPost w g size lg R e w9) := Lib.hid (by rw [HE.out]; exact hp)
            rcases HP.out.cases with ⟨A9, n9, c9, rfl⟩ | ⟨l9, h9⟩
            · go_wp2_with fail
              go_ret
              exact HP.out
            · have HP2 := HP
              unfold thrown at h9
              subst h9
              go_wp2_with fail
              exact ⟨rfl, HP2.out⟩
          rw [hT] at HA
          rw [if_neg (Bool.eq_false_iff.1 hT)] at HE
          clear hT
          go_wp2_with fail
          refine HA.out.mono ?_
          rintro e w13 ⟨rfl, hs, hc⟩
          clear HA
          have HS13 : Hid (St w g size lg w13 l false) := Lib.hid hs
          clear hs hc HS12
          have HA := Lib.hid (HS13.out.has [102, 111, 114, 107])
          rcases Bool.eq_false_or_eq_true (isT [102, 111, 114, 107] l) with hT | hT
          · rw [hT] at HA
            rw [if_pos hT] at HE
            have HT13 := Lib.hid (isT_len hT)
            clear hT
            go_wp2_with fail
            refine HA.out.mono ?_
            rintro e w14 ⟨rfl, hs, hc⟩
            clear HA
            have HS14 : Hid (St w g size lg w14 l.tail false) := Lib.hid hs
            clear hs hc HS13
            have HD := Lib.hid (HS14.out.nt ih .block (Pr.ne_of HE.out HNE.out))
            obtain ⟨r14, hr14⟩ : ∃ r, r = P n .block l.tail := ⟨_, rfl⟩
            rw [← hr14] at HD HE
            have HR14 := Lib.hid hr14
            clear hr14
            go_wp2_with fail
            refine HD.out.mono ?_
            rcases r14 with _ | l2 | ⟨t15, l15, m15⟩
            · intro e w2 hh
              exact (show False from hh).elim
            · rintro e w15 ⟨rfl, hp⟩
              have HP := Lib.hid hp
              go_wp2_with fail
              exact ⟨rfl, by rw [HE.out]; exact HP.out⟩
            rintro e w15 ⟨A15, c15, n15, rfl, hs, ho, hc, hfr⟩
            rw [Pr.bind_ok, Pr.add_add] at HE
            obtain ⟨M15, hM⟩ : ∃ z, z = (false || m15) := ⟨_, rfl⟩
            rw [← hM] at hs HE
            have HO15 := Lib.hid ho
            have HFR15 := Lib.hid hfr
            clear hM ho HD hfr
            have HS15 : Hid (St w g size lg w15 l15 M15) := Lib.hid hs
            clear hs hc HS14
            have HF := Lib.hid (HS15.out.of1 (tw 53) HO15.out)
            go_wp2_with fail
            refine HF.out.mono ?_
            intro e w9 hp
            have HP : Hid (PPost w g size lg R e w9) := Lib.hid (by rw [HE.out]; exact hp)
            rcases HP.out.cases with ⟨A9, n9, c9, rfl⟩ | ⟨l9, h9⟩
            · go_wp2_with fail
              go_ret
              exact HP.out
            · have HP2 := HP
              unfold thrown at h9
              subst h9
              go_wp2_with fail
              exact ⟨rfl, HP2.out⟩
          rw [hT] at HA
          rw [if_neg (Bool.eq_false_iff.1 hT)] at HE
          clear hT
          go_wp2_with fail
          refine HA.out.mono ?_
          rintro e w14 ⟨rfl, hs, hc⟩
          clear HA
          have HS14 : Hid (St w g size lg w14 l false) := Lib.hid hs
          clear hs hc HS13
          have HA := Lib.hid (HS14.out.has [116, 97, 107, 101])
          rcases Bool.eq_false_or_eq_true (isT [116, 97, 107, 101] l) with hT | hT
          · rw [hT] at HA
            rw [if_pos hT] at HE
            have HT14 := Lib.hid (isT_len hT)
            clear hT
            go_wp2_with fail
            refine HA.out.mono ?_
            rintro e w15 ⟨rfl, hs, hc⟩
            clear HA
            have HS15 : Hid (St w g size lg w15 l.tail false) := Lib.hid hs
            clear hs hc HS14
            have HW := Lib.hid HS15.out.own
            rcases ho : ownP l.tail with _ | l2 | ⟨s16, l16, m16⟩
            · exact absurd ho (own_ne _)
            · rw [ho] at HW HE
              obtain rfl := own_bad ho
              go_wp2_with fail
              refine HW.out.mono ?_
              rintro e w16 ⟨rfl, hp⟩
              have HP := Lib.hid hp
              go_wp2_with fail
              exact ⟨rfl, by rw [HE.out]; exact HP.out⟩
            obtain rfl := own_okm ho
            rw [ho] at HW
            rw [ho, Pr.bind_ok, Pr.add_add, Bool.or_false] at HE
            clear ho
            go_wp2_with fail
            refine HW.out.mono ?_
            rintro e w16 ⟨rfl, hs, hc⟩
            clear HW
            have HS16 : Hid (St w g size lg w16 l16 false) := Lib.hid hs
            clear hs hc HS15
            have HP : Hid (PPost w g size lg R _ _) := Lib.hid ((HS16.out.lit ⟨56, 0, 0, s16⟩).end_ HE.out)
            clear HE
            go_wp2_with fail
            go_ret
            exact HP.out
          rw [hT] at HA
          rw [if_neg (Bool.eq_false_iff.1 hT)] at HE
          clear hT
          go_wp2_with fail
          refine HA.out.mono ?_
          rintro e w15 ⟨rfl, hs, hc⟩
          clear HA
          have HS15 : Hid (St w g size lg w15 l false) := Lib.hid hs
          clear hs hc HS14
          have HA := Lib.hid (is_any [99, 97, 108, 108] g size _ _ _ HS15.out.rd)
          rcases Bool.eq_false_or_eq_true (isT [99, 97, 108, 108] l) with hT | hT
          · rw [hT] at HA
            rw [if_pos hT] at HE
            have HTC := Lib.hid hT
            clear hT
            go_wp2_with fail
            refine HA.out.mono ?_
            rintro e wx ⟨rfl, hw⟩
            rw [hw]
            clear hw wx HA
            unfold askP at HE
            have HB0 : Hid (Blk (w15.alloc (.cells #[.int .u8 0, .int .i64 0, .int .i64 0, .string ⟨#[]⟩] 42)) w15.heap.size 42 #[.int .u8 0, .int .i64 0, .int .i64 0, .string ⟨#[]⟩]) := Lib.hid (Blk.new w15 _ _)
            go_upto_region 51 with (first | (refine wpList_store_row rfl 42 (.tmp 7) (.tmp 161) rfl w15.heap.size #[.int .u8 50, .int .i64 0, .int .i64 0, .string ⟨#[]⟩] rfl rfl 42 #[.int .u8 0, .int .i64 0, .int .i64 0, .string ⟨#[]⟩] HB0.out (by kernel_rfl) rfl (by kernel_rfl) ?_; rw [World.setRow_alloc_new]) | fail)
            obtain ⟨b7, hb⟩ : ∃ b, b = w15.heap.size := ⟨_, rfl⟩
            have HS16 : Hid (St w g size lg (w15.alloc (.cells #[.int .u8 50, .int .i64 0, .int .i64 0, .string ⟨#[]⟩] 42)) l false) := Lib.hid (HS15.out.alloc _)
            have Hb7 : Hid (Blk (w15.alloc (.cells #[.int .u8 50, .int .i64 0, .int .i64 0, .string ⟨#[]⟩] 42)) b7 42 #[.int .u8 50, .int .i64 0, .int .i64 0, .string ⟨#[]⟩] ∧ b7 ≠ g) := Lib.hid ⟨by rw [hb]; exact Blk.new _ _ _, by rw [hb]; have := HS15.out.chg.size; have := HS15.out.lt; omega⟩
            rw [← hb]
            have HLb7 : Hid (w.heap.size ≤ b7) := Lib.hid (by rw [hb]; exact HS15.out.chg.size)
            clear hb HB0 HS15
            generalize w15.alloc (.cells #[.int .u8 50, .int .i64 0, .int .i64 0, .string ⟨#[]⟩] 42) = w16 at *
            have HA := Lib.hid (HS16.out.has [99, 104, 105, 108, 100])
            rw [isT_other HTC.out (by decide)] at HA
            go_wp2_with fail
            refine HA.out.mono ?_
            rintro e w17 ⟨rfl, hs, hc⟩
            clear HA
            have HS17 : Hid (St w g size lg w17 l false) := Lib.hid hs
            have Hb7 : Hid (Blk w17 b7 42 #[.int .u8 50, .int .i64 0, .int .i64 0, .string ⟨#[]⟩] ∧ b7 ≠ g) := Lib.hid ⟨Hb7.out.1.chg hc Hb7.out.2, Hb7.out.2⟩
            clear hs hc HS16
            have HM := Lib.hid (HS17.out.must [99, 97, 108, 108])
            rw [HTC.out] at HM
            go_wp2_with fail
            refine HM.out.mono ?_
            rintro e w18 ⟨rfl, hs, hc⟩
            clear HM
            have HS18 : Hid (St w g size lg w18 l.tail false) := Lib.hid hs
            have Hb7 : Hid (Blk w18 b7 42 #[.int .u8 50, .int .i64 0, .int .i64 0, .string ⟨#[]⟩] ∧ b7 ≠ g) := Lib.hid ⟨Hb7.out.1.chg hc Hb7.out.2, Hb7.out.2⟩
            clear hs hc HS17
            have HW := Lib.hid HS18.out.own
            rcases ho : ownP l.tail with _ | l2 | ⟨s19, l19, m19⟩
            · exact absurd ho (own_ne _)
            · rw [ho] at HW HE
              obtain rfl := own_bad ho
              go_wp2_with fail
              refine HW.out.mono ?_
              rintro e w19 ⟨rfl, hp⟩
              have HP := Lib.hid hp
              go_wp2_with fail
              exact ⟨rfl, by rw [HE.out]; exact HP.out⟩
            obtain rfl := own_okm ho
            rw [ho] at HW
            rw [ho, Pr.bind_ok, Pr.add_add, Bool.or_false] at HE
            clear ho
            go_wp2_with fail
            refine HW.out.mono ?_
            rintro e w19 ⟨rfl, hs, hc⟩
            clear HW
            have HS19 : Hid (St w g size lg w19 l19 false) := Lib.hid hs
            have Hb7 : Hid (Blk w19 b7 42 #[.int .u8 50, .int .i64 0, .int .i64 0, .string ⟨#[]⟩] ∧ b7 ≠ g) := Lib.hid ⟨Hb7.out.1.chg hc Hb7.out.2, Hb7.out.2⟩
            clear hs hc HS18
            have f9 : w19.frozen? ⟨b7, 3, none⟩ = false := Hb7.out.1.frozen 3
            have c9 : w19.cell? ⟨b7, 3, none⟩ = some (.string ⟨#[]⟩) := Hb7.out.1.cell 3
            have HS20 : Hid (St w g size lg (w19.setCell ⟨b7, 3, none⟩ (.string s19)) l19 false) := Lib.hid (HS19.out.far (chg_self _ _ _ _) HLb7.out)
            have Hb7 : Hid (Blk (w19.setCell ⟨b7, 3, none⟩ (.string s19)) b7 42 #[.int .u8 50, .int .i64 0, .int .i64 0, .string s19] ∧ b7 ≠ g) := Lib.hid ⟨by have h1 := Hb7.out.1.set_ 3 (.string s19); simpa using h1, Hb7.out.2⟩
            go_upto_region 55 with fail
            generalize w19.setCell ⟨b7, 3, none⟩ (.string s19) = w20 at *
            clear f9 c9 HS19
            have HM := Lib.hid (HS20.out.must [40])
            rcases Bool.eq_false_or_eq_true (isT [40] l19) with hT | hT
            rotate_left
            · rw [hT] at HM
              rw [mustP_false hT] at HE
              go_wp2_with fail
              refine HM.out.mono ?_
              rintro e w21 ⟨rfl, hp⟩
              have HP := Lib.hid hp
              go_wp2_with fail
              exact ⟨rfl, by rw [HE.out]; exact HP.out⟩
            rw [hT] at HM
            rw [mustP_true hT, Pr.bind_ok, Pr.add_add, Bool.or_false] at HE
            have HT20 := Lib.hid (isT_len hT)
            clear hT
            go_wp2_with fail
            refine HM.out.mono ?_
            rintro e w21 ⟨rfl, hs, hc⟩
            clear HM
            have HS21 : Hid (St w g size lg w21 l19.tail false) := Lib.hid hs
            have Hb7 : Hid (Blk w21 b7 42 #[.int .u8 50, .int .i64 0, .int .i64 0, .string s19] ∧ b7 ≠ g) := Lib.hid ⟨Hb7.out.1.chg hc Hb7.out.2, Hb7.out.2⟩
            clear hs hc HS20
            go_wp2_with fail
            refine wp_region_planP (.q 0 (.q 1 (.q 2 (.q 3 (.a1 4 (.a1 5 (.a1 6 (.q 7 .fin)))))))) 6 (fun W => Blk W b7 42 #[.int .u8 50, .int .i64 0, .int .i64 0, .string s19]) (by kernel_rfl) rfl (by kernel_rfl) Hb7.out.1.drew (by intro c a w d v h; cases d <;> exact h) ?_
            refine wpPlan_q rfl rfl rfl ?_; intro K hK
            go_big_quiet_op
            first | go_big_quiet_on | (refine ⟨_, fun _ _ => rfl, ?_⟩; go_big_quiet_on)
            refine wpPlan_q rfl rfl rfl ?_; intro K hK
            refine quiet_load_row 42 (.tmp 7) rfl b7 rfl 42 #[.int .u8 50, .int .i64 0, .int .i64 0, .string s19] (0, 0) _ (fun W hW => hW) Tryd.underlying42 rfl (by kernel_rfl) ?_
            refine hK _ ?_
            clear hK K
            try simp only [Act.put, List.setIfInBounds_toArray, List.set_cons_succ, List.set_cons_zero]
            refine wpPlan_q rfl rfl rfl ?_; intro K hK
            go_big_quiet_op
            first | go_big_quiet_on | (refine ⟨_, fun _ _ => rfl, ?_⟩; go_big_quiet_on)
            refine wpPlan_q rfl rfl rfl ?_; intro K hK
            go_big_quiet_op
            first | go_big_quiet_on | (refine ⟨_, fun _ _ => rfl, ?_⟩; go_big_quiet_on)
            have hs := HS21.out.drew
            have hc : Chg (fun k => k = g) w21 w21.drew := (Chg.refl _ _).drew
            have HS22 : Hid (St w g size lg w21.drew l19.tail false) := Lib.hid hs
            have Hb7 : Hid (Blk w21.drew b7 42 #[.int .u8 50, .int .i64 0, .int .i64 0, .string s19] ∧ b7 ≠ g) := Lib.hid ⟨Hb7.out.1.chg hc Hb7.out.2, Hb7.out.2⟩
            clear hs hc HS21
            refine wpPlan_act true rfl rfl rfl ?_; intro K hK
            go_simp
            refine hK _ _ (fun h => Hb7.out.1) ?_
            clear hK K
            try simp only [Act.put, List.setIfInBounds_toArray, List.set_cons_succ, List.set_cons_zero]
            refine wpPlan_act true rfl rfl rfl ?_; intro K hK
            go_simp
            have HD := Lib.hid (HS22.out.list 33 #[gp g] #[] (P n .expr) (P_len n .expr) [41] (fun _ _ => rfl) (ih.reads .expr g size _) (Pr.ne_of HE.out HNE.out))
            obtain ⟨r22, hr22⟩ : ∃ r, r = lisP (P n .expr) [41] n l19.tail := ⟨_, rfl⟩
            rw [← hr22] at HD HE
            clear hr22
            refine HD.out.mono ?_
            rcases r22 with _ | l2 | ⟨ts23, l23, m23⟩
            · intro e w2 hh
              exact (show False from hh).elim
            · rintro e w23 ⟨rfl, hp⟩
              have hfin : PPost w g size lg R (.panicked [{ v := wrongV (faultAt size l2), recovered := false }]) w23 := by rw [HE.out]; exact hp
              exact And.intro rfl hfin
            rintro e w23 ⟨A23, c23, n23, rfl, hs, ho, hk, hts, hc⟩
            rw [Pr.bind_ok, Pr.add_add] at HE
            obtain ⟨M23, hM⟩ : ∃ z, z = (false || m23) := ⟨_, rfl⟩
            rw [← hM] at hs HE
            have HO23 := Lib.hid ho
            have HQ23 := Lib.hid hts
            clear hM ho HD hts
            have HS23 : Hid (St w g size lg w23 l23 M23) := Lib.hid hs
            have Hb7 : Hid (Blk w23 b7 42 #[.int .u8 50, .int .i64 0, .int .i64 0, .string s19] ∧ b7 ≠ g) := Lib.hid ⟨Hb7.out.1.chg hc Hb7.out.2, Hb7.out.2⟩
            clear hs hc HS22
            refine hK _ _ (fun h => Hb7.out.1) ?_
            clear hK K
            try simp only [Act.put, List.setIfInBounds_toArray, List.set_cons_succ, List.set_cons_zero]
            have HF := Lib.hid (HS23.out.ofs ⟨50, 0, 0, s19⟩ HO23.out (by omega) HQ23.out)
            refine wpPlan_act false rfl rfl rfl ?_; intro K hK
            go_simp
            refine HF.out.mono ?_
            intro e w9 hp
            have HP : Hid (PPost w g size lg R e w9) := Lib.hid (by rw [HE.out]; exact hp)
            rcases HP.out.cases with ⟨A9, n9, c9, rfl⟩ | ⟨l9, h9⟩
            · refine hK _ _ (fun h => by cases h) ?_
              clear hK K
              try simp only [Act.put, List.setIfInBounds_toArray, List.set_cons_succ, List.set_cons_zero]
              refine wpPlan_p rfl rfl rfl ?_; intro K hK
              go_big_quiet_op
              first | go_big_quiet_on | (refine ⟨_, fun _ _ => rfl, ?_⟩; go_big_quiet_on)
              refine wpPlan_endP ?_
              go_wp2_with fail
              go_ret
              exact HP.out
            · have HP2 := HP
              unfold thrown at h9
              subst h9
              exact And.intro rfl HP2.out
          rw [hT] at HA
          rw [if_neg (Bool.eq_false_iff.1 hT)] at HE
          have HTC := Lib.hid hT
          clear hT
          go_wp2_with fail
          refine HA.out.mono ?_
          rintro e wx ⟨rfl, hw⟩
          rw [hw]
          clear hw wx HA
          have HA := Lib.hid (is_any [99, 104, 105, 108, 100] g size _ _ _ HS15.out.rd)
          rcases Bool.eq_false_or_eq_true (isT [99, 104, 105, 108, 100] l) with hT | hT
          · rw [hT] at HA
            rw [if_pos hT] at HE
            have HTD := Lib.hid hT
            clear hT
            go_wp2_with fail
            refine HA.out.mono ?_
            rintro e wx ⟨rfl, hw⟩
            rw [hw]
            clear hw wx HA
            unfold askP at HE
            have HB0 : Hid (Blk (w15.alloc (.cells #[.int .u8 0, .int .i64 0, .int .i64 0, .string ⟨#[]⟩] 42)) w15.heap.size 42 #[.int .u8 0, .int .i64 0, .int .i64 0, .string ⟨#[]⟩]) := Lib.hid (Blk.new w15 _ _)
            go_upto_region 51 with (first | (refine wpList_store_row rfl 42 (.tmp 7) (.tmp 161) rfl w15.heap.size #[.int .u8 50, .int .i64 0, .int .i64 0, .string ⟨#[]⟩] rfl rfl 42 #[.int .u8 0, .int .i64 0, .int .i64 0, .string ⟨#[]⟩] HB0.out (by kernel_rfl) rfl (by kernel_rfl) ?_; rw [World.setRow_alloc_new]) | fail)
            obtain ⟨b7, hb⟩ : ∃ b, b = w15.heap.size := ⟨_, rfl⟩
            have HS16 : Hid (St w g size lg (w15.alloc (.cells #[.int .u8 50, .int .i64 0, .int .i64 0, .string ⟨#[]⟩] 42)) l false) := Lib.hid (HS15.out.alloc _)
            have Hb7 : Hid (Blk (w15.alloc (.cells #[.int .u8 50, .int .i64 0, .int .i64 0, .string ⟨#[]⟩] 42)) b7 42 #[.int .u8 50, .int .i64 0, .int .i64 0, .string ⟨#[]⟩] ∧ b7 ≠ g) := Lib.hid ⟨by rw [hb]; exact Blk.new _ _ _, by rw [hb]; have := HS15.out.chg.size; have := HS15.out.lt; omega⟩
            rw [← hb]
            have HLb7 : Hid (w.heap.size ≤ b7) := Lib.hid (by rw [hb]; exact HS15.out.chg.size)
            clear hb HB0 HS15
            generalize w15.alloc (.cells #[.int .u8 50, .int .i64 0, .int .i64 0, .string ⟨#[]⟩] 42) = w16 at *
            have HA := Lib.hid (HS16.out.has [99, 104, 105, 108, 100])
            rw [HTD.out] at HA
            go_wp2_with fail
            refine HA.out.mono ?_
            rintro e w17 ⟨rfl, hs, hc⟩
            clear HA
            have HS17 : Hid (St w g size lg w17 l.tail false) := Lib.hid hs
            have Hb7 : Hid (Blk w17 b7 42 #[.int .u8 50, .int .i64 0, .int .i64 0, .string ⟨#[]⟩] ∧ b7 ≠ g) := Lib.hid ⟨Hb7.out.1.chg hc Hb7.out.2, Hb7.out.2⟩
            clear hs hc HS16
            have f9 : w17.frozen? ⟨b7, 0, none⟩ = false := Hb7.out.1.frozen 0
            have c9 : w17.cell? ⟨b7, 0, none⟩ = some (.int .u8 50) := Hb7.out.1.cell 0
            have HS18 : Hid (St w g size lg (w17.setCell ⟨b7, 0, none⟩ (.int .u8 51)) l.tail false) := Lib.hid (HS17.out.far (chg_self _ _ _ _) HLb7.out)
            have Hb7 : Hid (Blk (w17.setCell ⟨b7, 0, none⟩ (.int .u8 51)) b7 42 #[.int .u8 51, .int .i64 0, .int .i64 0, .string ⟨#[]⟩] ∧ b7 ≠ g) := Lib.hid ⟨by have h1 := Hb7.out.1.set_ 0 (.int .u8 51); simpa using h1, Hb7.out.2⟩
            go_upto_region 54 with fail
            generalize w17.setCell ⟨b7, 0, none⟩ (.int .u8 51) = w18 at *
            clear f9 c9 HS17
            have HW := Lib.hid HS18.out.own
            rcases ho : ownP l.tail with _ | l2 | ⟨s19, l19, m19⟩
            · exact absurd ho (own_ne _)
            · rw [ho] at HW HE
              obtain rfl := own_bad ho
              go_wp2_with fail
              refine HW.out.mono ?_
              rintro e w19 ⟨rfl, hp⟩
              have HP := Lib.hid hp
              go_wp2_with fail
              exact ⟨rfl, by rw [HE.out]; exact HP.out⟩
            obtain rfl := own_okm ho
            rw [ho] at HW
            rw [ho, Pr.bind_ok, Pr.add_add, Bool.or_false] at HE
            clear ho
            go_wp2_with fail
            refine HW.out.mono ?_
            rintro e w19 ⟨rfl, hs, hc⟩
            clear HW
            have HS19 : Hid (St w g size lg w19 l19 false) := Lib.hid hs
            have Hb7 : Hid (Blk w19 b7 42 #[.int .u8 51, .int .i64 0, .int .i64 0, .string ⟨#[]⟩] ∧ b7 ≠ g) := Lib.hid ⟨Hb7.out.1.chg hc Hb7.out.2, Hb7.out.2⟩
            clear hs hc HS18
            have f9 : w19.frozen? ⟨b7, 3, none⟩ = false := Hb7.out.1.frozen 3
            have c9 : w19.cell? ⟨b7, 3, none⟩ = some (.string ⟨#[]⟩) := Hb7.out.1.cell 3
            have HS20 : Hid (St w g size lg (w19.setCell ⟨b7, 3, none⟩ (.string s19)) l19 false) := Lib.hid (HS19.out.far (chg_self _ _ _ _) HLb7.out)
            have Hb7 : Hid (Blk (w19.setCell ⟨b7, 3, none⟩ (.string s19)) b7 42 #[.int .u8 51, .int .i64 0, .int .i64 0, .string s19] ∧ b7 ≠ g) := Lib.hid ⟨by have h1 := Hb7.out.1.set_ 3 (.string s19); simpa using h1, Hb7.out.2⟩
            go_upto_region 55 with fail
            generalize w19.setCell ⟨b7, 3, none⟩ (.string s19) = w20 at *
            clear f9 c9 HS19
            have HM := Lib.hid (HS20.out.must [40])
            rcases Bool.eq_false_or_eq_true (isT [40] l19) with hT | hT
            rotate_left
            · rw [hT] at HM
              rw [mustP_false hT] at HE
              go_wp2_with fail
              refine HM.out.mono ?_
              rintro e w21 ⟨rfl, hp⟩
              have HP := Lib.hid hp
              go_wp2_with fail
              exact ⟨rfl, by rw [HE.out]; exact HP.out⟩
            rw [hT] at HM
            rw [mustP_true hT, Pr.bind_ok, Pr.add_add, Bool.or_false] at HE
            have HT20 := Lib.hid (isT_len hT)
            clear hT
            go_wp2_with fail
            refine HM.out.mono ?_
            rintro e w21 ⟨rfl, hs, hc⟩
            clear HM
            have HS21 : Hid (St w g size lg w21 l19.tail false) := Lib.hid hs
            have Hb7 : Hid (Blk w21 b7 42 #[.int .u8 51, .int .i64 0, .int .i64 0, .string s19] ∧ b7 ≠ g) := Lib.hid ⟨Hb7.out.1.chg hc Hb7.out.2, Hb7.out.2⟩
            clear hs hc HS20
            go_wp2_with fail
            refine wp_region_planP (.q 0 (.q 1 (.q 2 (.q 3 (.a1 4 (.a1 5 (.a1 6 (.q 7 .fin)))))))) 6 (fun W => Blk W b7 42 #[.int .u8 51, .int .i64 0, .int .i64 0, .string s19]) (by kernel_rfl) rfl (by kernel_rfl) Hb7.out.1.drew (by intro c a w d v h; cases d <;> exact h) ?_
            refine wpPlan_q rfl rfl rfl ?_; intro K hK
            go_big_quiet_op
            first | go_big_quiet_on | (refine ⟨_, fun _ _ => rfl, ?_⟩; go_big_quiet_on)
            refine wpPlan_q rfl rfl rfl ?_; intro K hK
            refine quiet_load_row 42 (.tmp 7) rfl b7 rfl 42 #[.int .u8 51, .int .i64 0, .int .i64 0, .string s19] (0, 0) _ (fun W hW => hW) Tryd.underlying42 rfl (by kernel_rfl) ?_
            refine hK _ ?_
            clear hK K
            try simp only [Act.put, List.setIfInBounds_toArray, List.set_cons_succ, List.set_cons_zero]
            refine wpPlan_q rfl rfl rfl ?_; intro K hK
            go_big_quiet_op
            first | go_big_quiet_on | (refine ⟨_, fun _ _ => rfl, ?_⟩; go_big_quiet_on)
            refine wpPlan_q rfl rfl rfl ?_; intro K hK
            go_big_quiet_op
            first | go_big_quiet_on | (refine ⟨_, fun _ _ => rfl, ?_⟩; go_big_quiet_on)
            have hs := HS21.out.drew
            have hc : Chg (fun k => k = g) w21 w21.drew := (Chg.refl _ _).drew
            have HS22 : Hid (St w g size lg w21.drew l19.tail false) := Lib.hid hs
            have Hb7 : Hid (Blk w21.drew b7 42 #[.int .u8 51, .int .i64 0, .int .i64 0, .string s19] ∧ b7 ≠ g) := Lib.hid ⟨Hb7.out.1.chg hc Hb7.out.2, Hb7.out.2⟩
            clear hs hc HS21
            refine wpPlan_act true rfl rfl rfl ?_; intro K hK
            go_simp
            refine hK _ _ (fun h => Hb7.out.1) ?_
            clear hK K
            try simp only [Act.put, List.setIfInBounds_toArray, List.set_cons_succ, List.set_cons_zero]
            refine wpPlan_act true rfl rfl rfl ?_; intro K hK
            go_simp
            have HD := Lib.hid (HS22.out.list 33 #[gp g] #[] (P n .expr) (P_len n .expr) [41] (fun _ _ => rfl) (ih.reads .expr g size _) (Pr.ne_of HE.out HNE.out))
            obtain ⟨r22, hr22⟩ : ∃ r, r = lisP (P n .expr) [41] n l19.tail := ⟨_, rfl⟩
            rw [← hr22] at HD HE
            clear hr22
            refine HD.out.mono ?_
            rcases r22 with _ | l2 | ⟨ts23, l23, m23⟩
            · intro e w2 hh
              exact (show False from hh).elim
            · rintro e w23 ⟨rfl, hp⟩
              have hfin : PPost w g size lg R (.panicked [{ v := wrongV (faultAt size l2), recovered := false }]) w23 := by rw [HE.out]; exact hp
              exact And.intro rfl hfin
            rintro e w23 ⟨A23, c23, n23, rfl, hs, ho, hk, hts, hc⟩
            rw [Pr.bind_ok, Pr.add_add] at HE
            obtain ⟨M23, hM⟩ : ∃ z, z = (false || m23) := ⟨_, rfl⟩
            rw [← hM] at hs HE
            have HO23 := Lib.hid ho
            have HQ23 := Lib.hid hts
            clear hM ho HD hts
            have HS23 : Hid (St w g size lg w23 l23 M23) := Lib.hid hs
            have Hb7 : Hid (Blk w23 b7 42 #[.int .u8 51, .int .i64 0, .int .i64 0, .string s19] ∧ b7 ≠ g) := Lib.hid ⟨Hb7.out.1.chg hc Hb7.out.2, Hb7.out.2⟩
            clear hs hc HS22
            refine hK _ _ (fun h => Hb7.out.1) ?_
            clear hK K
            try simp only [Act.put, List.setIfInBounds_toArray, List.set_cons_succ, List.set_cons_zero]
            have HF := Lib.hid (HS23.out.ofs ⟨51, 0, 0, s19⟩ HO23.out (by omega) HQ23.out)
            refine wpPlan_act false rfl rfl rfl ?_; intro K hK
            go_simp
            refine HF.out.mono ?_
            intro e w9 hp
            have HP : Hid (PPost w g size lg R e w9) := Lib.hid (by rw [HE.out]; exact hp)
            rcases HP.out.cases with ⟨A9, n9, c9, rfl⟩ | ⟨l9, h9⟩
            · refine hK _ _ (fun h => by cases h) ?_
              clear hK K
              try simp only [Act.put, List.setIfInBounds_toArray, List.set_cons_succ, List.set_cons_zero]
              refine wpPlan_p rfl rfl rfl ?_; intro K hK
              go_big_quiet_op
              first | go_big_quiet_on | (refine ⟨_, fun _ _ => rfl, ?_⟩; go_big_quiet_on)
              refine wpPlan_endP ?_
              go_wp2_with fail
              go_ret
              exact HP.out
            · have HP2 := HP
              unfold thrown at h9
              subst h9
              exact And.intro rfl HP2.out
          rw [hT] at HA
          rw [if_neg (Bool.eq_false_iff.1 hT)] at HE
          have HTD := Lib.hid hT
          clear hT
          go_wp2_with fail
          refine HA.out.mono ?_
          rintro e wx ⟨rfl, hw⟩
          rw [hw]
          clear hw wx HA
          have HF := Lib.hid HS15.out.fault
          go_wp2_with fail
          refine HF.out.mono ?_
          rintro e w9 ⟨rfl, hp⟩
          have HP := Lib.hid hp
          go_wp2_with fail
          exact ⟨rfl, by rw [HE.out]; exact HP.out⟩
theorem nt_ok : ∀ n, NtOk n
  | 0 => fun nt g size l lg w hr hne => absurd rfl hne
  | n + 1 => by
    have ih := nt_ok n
    intro nt g size l lg w hr hne
    cases nt with
    | expr => exact expr_step n ih g size l lg w hr hne
    | and_ => exact and__step n ih g size l lg w hr hne
    | not_ => exact not_step n ih g size l lg w hr hne
    | sum => exact sum_step n ih g size l lg w hr hne
    | term => exact term_step n ih g size l lg w hr hne
    | pre => exact pre_step n ih g size l lg w hr hne
    | prim => exact prim_step n ih g size l lg w hr hne
    | block => exact block_step n ih g size l lg w hr hne
    | stmt => exact stmt_step n ih g size l lg w hr hne
def FlF (b1 b3 : Nat) (g : Nat) (s : ByteArray) (W : World) : Prop := Blk W b1 59 #[gp g] ∧ Blk W b3 42 #[.int .u8 1, .int .i64 0, .int .i64 0, .string s]
set_option maxRecDepth 100000 in
set_option maxHeartbeats 16000000 in
theorem param_any (b1 g size : Nat) (l : List Tz) (lg : Bool) (w : World) (hr : RdM w g l size lg) (k0 : w.cell? ⟨b1, 0, none⟩ = some (gp g)) :
    Calls Tryd.prog 73 #[.pointer (some ⟨b1, 0, none⟩)] w (PPost w g size lg (paramP l)) := by
  have hne : paramP l ≠ .out := by
    unfold paramP
    intro h
    cases ho : ownP l with
    | out => exact absurd ho (own_ne _)
    | bad l2 => rw [ho] at h; cases h
    | ok s l2 m => rw [ho] at h; cases h
  have HS0 : Hid (St w g size lg w l false) := Lib.hid (St.start hr)
  obtain ⟨R, hR⟩ : ∃ R, R = paramP l := ⟨_, rfl⟩
  have HNE : Hid (R ≠ .out) := Lib.hid (by rw [hR]; exact hne)
  rw [← hR]
  have HE : Hid (R = (paramP l).add false) := Lib.hid (by rw [hR, Pr.add_false])
  clear hR hr hne
  unfold paramP at HE
  go_enter Tryd.func73, Tryd.ntmps73
  have HW := Lib.hid HS0.out.own
  rcases ho : ownP l with _ | l2 | ⟨s1, l1, m1⟩
  · exact absurd ho (own_ne _)
  · rw [ho] at HW HE
    obtain rfl := own_bad ho
    go_wp2_with fail
    refine HW.out.mono ?_
    rintro e w1 ⟨rfl, hp⟩
    have HP := Lib.hid hp
    go_wp2_with fail
    exact ⟨rfl, by rw [HE.out]; exact HP.out⟩
  obtain rfl := own_okm ho
  rw [ho] at HW
  rw [ho, Pr.bind_ok, Pr.add_add, Bool.or_false] at HE
  clear ho
  go_wp2_with fail
  refine HW.out.mono ?_
  rintro e w1 ⟨rfl, hs, hc⟩
  clear HW
  have HS1 : Hid (St w g size lg w1 l1 false) := Lib.hid hs
  clear hs hc HS0
  have HP : Hid (PPost w g size lg R _ _) := Lib.hid ((HS1.out.lit ⟨2, 0, 0, s1⟩).end_ HE.out)
  clear HE
  go_wp2_with fail
  go_ret
  exact HP.out
set_option maxRecDepth 100000 in
set_option maxHeartbeats 16000000 in
theorem flow_any (n g size : Nat) (l : List Tz) (lg : Bool) (w : World) (hr : RdM w g l size lg) (hne : flowP n l ≠ .out) :
    Calls Tryd.prog 32 #[gp g] w (PPost w g size lg (flowP n l)) := by
  have hmf : ∀ (fn : Fn) (first cap : Array Value) (w : World), (Instr.makeFunc fn first cap).run Tryd.prog w = .ok (.func fn first cap) w := fun _ _ _ _ => rfl
  have ih := nt_ok n
  have HS0 : Hid (St w g size lg w l false) := Lib.hid (St.start hr)
  obtain ⟨R, hR⟩ : ∃ R, R = flowP n l := ⟨_, rfl⟩
  have HNE : Hid (R ≠ .out) := Lib.hid (by rw [hR]; exact hne)
  rw [← hR]
  have HE : Hid (R = (flowP n l).add false) := Lib.hid (by rw [hR, Pr.add_false])
  clear hR hr hne
  unfold flowP at HE
  go_enter Tryd.func32, Tryd.ntmps32
  go_upto_region 1 with fail
  obtain ⟨b1, hb1⟩ : ∃ b, b = w.heap.size := ⟨_, rfl⟩
  have HS1 : Hid (St w g size lg (w.alloc (.cells #[gp g] 59)) l false) := Lib.hid (HS0.out.alloc _)
  have Hb1 : Hid (Blk (w.alloc (.cells #[gp g] 59)) b1 59 #[gp g] ∧ b1 ≠ g) := Lib.hid ⟨by rw [hb1]; exact Blk.new w _ _, by rw [hb1]; have := HS0.out.lt; omega⟩
  rw [← hb1]
  clear hb1 HS0
  generalize w.alloc (.cells #[gp g] 59) = w1 at *
  have qb11 : w1.cell? ⟨b1, 0, none⟩ = some (gp g) := Hb1.out.1.cell 0
  have HM := Lib.hid (HS1.out.must [102, 108, 111, 119])
  rcases Bool.eq_false_or_eq_true (isT [102, 108, 111, 119] l) with hT | hT
  rotate_left
  · rw [hT] at HM
    rw [mustP_false hT] at HE
    go_wp2_with fail
    refine HM.out.mono ?_
    rintro e w2 ⟨rfl, hp⟩
    have HP := Lib.hid hp
    go_wp2_with fail
    exact ⟨rfl, by rw [HE.out]; exact HP.out⟩
  rw [hT] at HM
  rw [mustP_true hT, Pr.bind_ok, Pr.add_add, Bool.or_false] at HE
  have HT1 := Lib.hid (isT_len hT)
  clear hT
  go_wp2_with fail
  refine HM.out.mono ?_
  rintro e w2 ⟨rfl, hs, hc⟩
  clear HM
  have HS2 : Hid (St w g size lg w2 l.tail false) := Lib.hid hs
  have Hb1 : Hid (Blk w2 b1 59 #[gp g] ∧ b1 ≠ g) := Lib.hid ⟨Hb1.out.1.chg hc Hb1.out.2, Hb1.out.2⟩
  clear hs hc HS1
  have qb12 : w2.cell? ⟨b1, 0, none⟩ = some (gp g) := Hb1.out.1.cell 0
  have HW := Lib.hid HS2.out.own
  rcases ho : ownP l.tail with _ | l2 | ⟨s3, l3, m3⟩
  · exact absurd ho (own_ne _)
  · rw [ho] at HW HE
    obtain rfl := own_bad ho
    go_wp2_with fail
    refine HW.out.mono ?_
    rintro e w3 ⟨rfl, hp⟩
    have HP := Lib.hid hp
    go_wp2_with fail
    exact ⟨rfl, by rw [HE.out]; exact HP.out⟩
  obtain rfl := own_okm ho
  rw [ho] at HW
  rw [ho, Pr.bind_ok, Pr.add_add, Bool.or_false] at HE
  clear ho
  go_wp2_with fail
  refine HW.out.mono ?_
  rintro e w3 ⟨rfl, hs, hc⟩
  clear HW
  have HS3 : Hid (St w g size lg w3 l3 false) := Lib.hid hs
  have Hb1 : Hid (Blk w3 b1 59 #[gp g] ∧ b1 ≠ g) := Lib.hid ⟨Hb1.out.1.chg hc Hb1.out.2, Hb1.out.2⟩
  clear hs hc HS2
  have qb13 : w3.cell? ⟨b1, 0, none⟩ = some (gp g) := Hb1.out.1.cell 0
  have HB0 : Hid (Blk (w3.alloc (.cells #[.int .u8 0, .int .i64 0, .int .i64 0, .string ⟨#[]⟩] 42)) w3.heap.size 42 #[.int .u8 0, .int .i64 0, .int .i64 0, .string ⟨#[]⟩]) := Lib.hid (Blk.new w3 _ _)
  go_upto_region 3 with (first | (refine wpList_store_row rfl 42 (.tmp 3) (.tmp 9) rfl w3.heap.size #[.int .u8 1, .int .i64 0, .int .i64 0, .string s3] rfl rfl 42 #[.int .u8 0, .int .i64 0, .int .i64 0, .string ⟨#[]⟩] HB0.out (by kernel_rfl) rfl (by kernel_rfl) ?_; rw [World.setRow_alloc_new]) | fail)
  obtain ⟨b3, hb⟩ : ∃ b, b = w3.heap.size := ⟨_, rfl⟩
  have HS4 : Hid (St w g size lg (w3.alloc (.cells #[.int .u8 1, .int .i64 0, .int .i64 0, .string s3] 42)) l3 false) := Lib.hid (HS3.out.alloc _)
  have Hb3 : Hid (Blk (w3.alloc (.cells #[.int .u8 1, .int .i64 0, .int .i64 0, .string s3] 42)) b3 42 #[.int .u8 1, .int .i64 0, .int .i64 0, .string s3] ∧ b3 ≠ g) := Lib.hid ⟨by rw [hb]; exact Blk.new _ _ _, by rw [hb]; have := HS3.out.chg.size; have := HS3.out.lt; omega⟩
  rw [← hb]
  have HLb3 : Hid (w.heap.size ≤ b3) := Lib.hid (by rw [hb]; exact HS3.out.chg.size)
  have Hb1 : Hid (Blk (w3.alloc (.cells #[.int .u8 1, .int .i64 0, .int .i64 0, .string s3] 42)) b1 59 #[gp g] ∧ b1 ≠ g) := Lib.hid ⟨Hb1.out.1.alloc _, Hb1.out.2⟩
  clear hb HB0 HS3
  generalize w3.alloc (.cells #[.int .u8 1, .int .i64 0, .int .i64 0, .string s3] 42) = w4 at *
  have qb14 : w4.cell? ⟨b1, 0, none⟩ = some (gp g) := Hb1.out.1.cell 0
  have HM := Lib.hid (HS4.out.must [40])
  rcases Bool.eq_false_or_eq_true (isT [40] l3) with hT | hT
  rotate_left
  · rw [hT] at HM
    rw [mustP_false hT] at HE
    go_wp2_with fail
    refine HM.out.mono ?_
    rintro e w5 ⟨rfl, hp⟩
    have HP := Lib.hid hp
    go_wp2_with fail
    exact ⟨rfl, by rw [HE.out]; exact HP.out⟩
  rw [hT] at HM
  rw [mustP_true hT, Pr.bind_ok, Pr.add_add, Bool.or_false] at HE
  have HT4 := Lib.hid (isT_len hT)
  clear hT
  go_wp2_with fail
  refine HM.out.mono ?_
  rintro e w5 ⟨rfl, hs, hc⟩
  clear HM
  have HS5 : Hid (St w g size lg w5 l3.tail false) := Lib.hid hs
  have Hb1 : Hid (Blk w5 b1 59 #[gp g] ∧ b1 ≠ g) := Lib.hid ⟨Hb1.out.1.chg hc Hb1.out.2, Hb1.out.2⟩
  have Hb3 : Hid (Blk w5 b3 42 #[.int .u8 1, .int .i64 0, .int .i64 0, .string s3] ∧ b3 ≠ g) := Lib.hid ⟨Hb3.out.1.chg hc Hb3.out.2, Hb3.out.2⟩
  clear hs hc HS4
  have qb15 : w5.cell? ⟨b1, 0, none⟩ = some (gp g) := Hb1.out.1.cell 0
  have HNP : Hid (FReads 73 #[] #[.pointer (some ⟨b1, 0, none⟩)] g size w5 paramP) := Lib.hid (fun l lg W hW hr _ => by
    rw [Array.empty_append]
    exact param_any b1 g size l lg W hr ((Hb1.out.1.chg hW Hb1.out.2).cell 0))
  have HD := Lib.hid (HS5.out.list 73 #[] #[.pointer (some ⟨b1, 0, none⟩)] paramP paramP_len [41] (fun _ _ => rfl) HNP.out (Pr.ne_of HE.out HNE.out))
  obtain ⟨r5, hr5⟩ : ∃ r, r = lisP paramP [41] n l3.tail := ⟨_, rfl⟩
  rw [← hr5] at HD HE
  clear hr5
  go_wp2_with fail
  refine HD.out.mono ?_
  rcases r5 with _ | l2 | ⟨ts6, l6, m6⟩
  · intro e w2 hh
    exact (show False from hh).elim
  · rintro e w6 ⟨rfl, hp⟩
    have HP := Lib.hid hp
    go_wp2_with fail
    exact ⟨rfl, by rw [HE.out]; exact HP.out⟩
  rintro e w6 ⟨A6, c6, n6, rfl, hs, ho, hk, hts, hc⟩
  rw [Pr.bind_ok, Pr.add_add] at HE
  obtain ⟨M6, hM⟩ : ∃ z, z = (false || m6) := ⟨_, rfl⟩
  rw [← hM] at hs HE
  have HO6 := Lib.hid ho
  have HQ6 := Lib.hid hts
  clear hM ho HD hts
  have HS6 : Hid (St w g size lg w6 l6 M6) := Lib.hid hs
  have Hb1 : Hid (Blk w6 b1 59 #[gp g] ∧ b1 ≠ g) := Lib.hid ⟨Hb1.out.1.chg hc Hb1.out.2, Hb1.out.2⟩
  have Hb3 : Hid (Blk w6 b3 42 #[.int .u8 1, .int .i64 0, .int .i64 0, .string s3] ∧ b3 ≠ g) := Lib.hid ⟨Hb3.out.1.chg hc Hb3.out.2, Hb3.out.2⟩
  clear hs hc HS5
  have qb16 : w6.cell? ⟨b1, 0, none⟩ = some (gp g) := Hb1.out.1.cell 0
  go_wp2_with fail
  refine wp_region_planP (.q 0 (.q 1 (.q 2 (.q 3 (.a1 4 (.a1 5 (.a1 6 (.a1 7 (.q 8 .fin))))))))) 7 (FlF b1 b3 g s3) (by kernel_rfl) rfl (by kernel_rfl) ⟨Hb1.out.1.drew, Hb3.out.1.drew⟩ (by intro c a w d v h; cases d <;> exact h) ?_
  refine wpPlan_q rfl rfl rfl ?_; intro K hK
  refine ⟨gp g, fun W hW => ?_, ?_⟩
  · have q0 := hW.1.cell 0
    unfold Oper.quietAt Oper.quietUpon
    simp [go_sem, q0]
  refine hK _ ?_
  clear hK K
  try simp only [Act.put, List.setIfInBounds_toArray, List.set_cons_succ, List.set_cons_zero]
  refine wpPlan_q rfl rfl rfl ?_; intro K hK
  refine quiet_load_row 42 (.tmp 3) rfl b3 rfl 42 #[.int .u8 1, .int .i64 0, .int .i64 0, .string s3] (0, 0) _ (fun W hW => hW.2) Tryd.underlying42 rfl (by kernel_rfl) ?_
  refine hK _ ?_
  clear hK K
  try simp only [Act.put, List.setIfInBounds_toArray, List.set_cons_succ, List.set_cons_zero]
  refine wpPlan_q rfl rfl rfl ?_; intro K hK
  go_big_quiet_op
  first | go_big_quiet_on | (refine ⟨_, fun _ _ => rfl, ?_⟩; go_big_quiet_on)
  refine wpPlan_q rfl rfl rfl ?_; intro K hK
  refine ⟨gp g, fun W hW => ?_, ?_⟩
  · have q0 := hW.1.cell 0
    unfold Oper.quietAt Oper.quietUpon
    simp [go_sem, q0]
  refine hK _ ?_
  clear hK K
  try simp only [Act.put, List.setIfInBounds_toArray, List.set_cons_succ, List.set_cons_zero]
  have hs := HS6.out.drew
  have hc : Chg (fun k => k = g) w6 w6.drew := (Chg.refl _ _).drew
  have HS7 : Hid (St w g size lg w6.drew l6 M6) := Lib.hid hs
  have Hb1 : Hid (Blk w6.drew b1 59 #[gp g] ∧ b1 ≠ g) := Lib.hid ⟨Hb1.out.1.chg hc Hb1.out.2, Hb1.out.2⟩
  have Hb3 : Hid (Blk w6.drew b3 42 #[.int .u8 1, .int .i64 0, .int .i64 0, .string s3] ∧ b3 ≠ g) := Lib.hid ⟨Hb3.out.1.chg hc Hb3.out.2, Hb3.out.2⟩
  have HO6 : Hid (TsR w.heap.size w6.drew A6 n6 c6 ts6) := Lib.hid (HO6.out.go hc HS6.out.lt)
  clear hs hc HS6
  have HRW0 := HO6
  have hk5 : n6 ≤ 50000 := by omega
  refine wpPlan_act true rfl rfl rfl ?_; intro K hK
  go_simp
  have HD := Lib.hid (HS7.out.nt ih .block (Pr.ne_of HE.out HNE.out))
  obtain ⟨r7, hr7⟩ : ∃ r, r = P n .block l6 := ⟨_, rfl⟩
  rw [← hr7] at HD HE
  have HR7 := Lib.hid hr7
  clear hr7
  refine HD.out.mono ?_
  rcases r7 with _ | l2 | ⟨t8, l8, m8⟩
  · intro e w2 hh
    exact (show False from hh).elim
  · rintro e w8 ⟨rfl, hp⟩
    have hfin : PPost w g size lg R (.panicked [{ v := wrongV (faultAt size l2), recovered := false }]) w8 := by rw [HE.out]; exact hp
    exact And.intro rfl hfin
  rintro e w8 ⟨A8, c8, n8, rfl, hs, ho, hc, hfr⟩
  rw [Pr.bind_ok, Pr.add_add] at HE
  obtain ⟨M8, hM⟩ : ∃ z, z = (M6 || m8) := ⟨_, rfl⟩
  rw [← hM] at hs HE
  have HO8 := Lib.hid ho
  have HFR8 := Lib.hid hfr
  clear hM ho HD hfr
  have HS8 : Hid (St w g size lg w8 l8 M8) := Lib.hid hs
  have Hb1 : Hid (Blk w8 b1 59 #[gp g] ∧ b1 ≠ g) := Lib.hid ⟨Hb1.out.1.chg hc Hb1.out.2, Hb1.out.2⟩
  have Hb3 : Hid (Blk w8 b3 42 #[.int .u8 1, .int .i64 0, .int .i64 0, .string s3] ∧ b3 ≠ g) := Lib.hid ⟨Hb3.out.1.chg hc Hb3.out.2, Hb3.out.2⟩
  have HO6 : Hid (TsR w.heap.size w8 A6 n6 c6 ts6) := Lib.hid (HO6.out.go hc HS7.out.lt)
  clear hs hc HS7
  refine hK _ _ (fun h => ⟨Hb1.out.1, Hb3.out.1⟩) ?_
  clear hK K
  try simp only [Act.put, List.setIfInBounds_toArray, List.set_cons_succ, List.set_cons_zero]
  have HX : Hid (TsR w.heap.size (w8.alloc (.cells #[.slice A8 n8 c8] 23)) A6 n6 c6 ts6 ∧ RdT w.heap.size (w8.alloc (.cells #[.slice A8 n8 c8] 23)) A8 t8 ∧ (∀ a, A8 = some a → (Value.slice A6 n6 c6).ownBlock ≠ some a.block ∧ a.block < (w8.alloc (.cells #[.slice A8 n8 c8] 23)).heap.size) ∧ (w8.alloc (.cells #[.slice A8 n8 c8] 23)).heap[w8.heap.size]? = some (.cells #[.slice A8 t8.length c8] 23 (0, 0)) ∧ FlF b1 b3 g s3 (w8.alloc (.cells #[.slice A8 n8 c8] 23))) := Lib.hid (by
    have hal : Below w8.heap.size w8 (w8.alloc (.cells #[.slice A8 n8 c8] 23)) := (Below.refl _ _).alloc (Nat.le_refl _) _
    refine ⟨HO6.out.below hal, HO8.out.rdt.below hal, fun a ha => ⟨fun he => ?_, Nat.lt_of_lt_of_le (HFR8.out a ha).2 hal.size⟩, by rw [HO8.out.len]; exact heap_alloc_new w8 _, Hb1.out.1.alloc _, Hb3.out.1.alloc _⟩
    obtain ⟨_, vs, h6, _⟩ := HRW0.out
    have h7 := (World.ownsRow.lt h6 _ he).2
    have h8 := (HFR8.out a ha).1
    omega)
  refine wpPlan_act true rfl rfl rfl ?_; intro K hK
  go_simp
  refine hK _ _ (fun h => HX.out.2.2.2.2) ?_
  clear hK K
  try simp only [Act.put, List.setIfInBounds_toArray, List.set_cons_succ, List.set_cons_zero]
  refine wpPlan_act true rfl rfl rfl ?_; intro K hK
  refine wp_app_tree (.tmp 17) (.tmp 20) rfl w.heap.size w8.heap.size n6 c6 A6 ts6 A8 c8 t8 rfl HX.out.1 rfl HX.out.2.2.2.1 HX.out.2.1 HX.out.2.2.1 (by omega) (by have := HS8.out.chg.size; simp; omega) ?_
  intro AZ cZ wy ht6 hg6
  have H6 := Lib.hid (And.intro ht6 hg6)
  clear ht6 hg6
  have HSY : Hid (St w g size lg wy l8 M8 ∧ (∀ t ∈ ts6 ++ [t8], t.length ≤ 2048) ∧ FlF b1 b3 g s3 wy) := Lib.hid (by
    have hgr : Chg (fun k => (Value.slice A6 n6 c6).ownBlock = some k) (w8.alloc (.cells #[.slice A8 n8 c8] 23)) wy := .of_grown H6.out.2 (fun r hr => hr)
    have hblk : ∀ k, (Value.slice A6 n6 c6).ownBlock = some k → w.heap.size ≤ k ∧ ∃ cur, Blk (w8.alloc (.cells #[.slice A8 n8 c8] 23)) k 23 cur := fun k hk => by
      obtain ⟨_, vs, h6, _⟩ := HX.out.1
      refine ⟨(World.ownsRow.lt h6 _ hk).1, ?_⟩
      rcases h6.2 with ⟨e1, _⟩ | ⟨g', cap, cur, e1, _, hh, _⟩
      · rw [e1] at hk; simp [Value.ownBlock] at hk
      · rw [e1] at hk
        have : g' = k := by simpa [Value.ownBlock] using hk
        subst this
        exact ⟨cur, hh⟩
    have hlt := HS8.out.lt
    refine ⟨⟨(HS8.out.alloc _).chg.thn hgr (fun k hk hk2 => by have := (hblk k hk2).1; omega), (HS8.out.alloc _).rd.chg hgr (fun k _ hk => by have := (hblk k hk).1; omega), hlt⟩, fun t ht => ?_, HX.out.2.2.2.2.1.chg hgr (fun hk => ?_), HX.out.2.2.2.2.2.chg hgr (fun hk => ?_)⟩
    · rcases List.mem_append.1 ht with h | h
      · exact HQ6.out t h
      · rw [List.mem_singleton] at h
        subst h
        exact HO8.out.small
    · obtain ⟨_, cur, hcur⟩ := hblk _ hk
      exact HX.out.2.2.2.2.1.ne_ hcur (by decide) rfl
    · obtain ⟨_, cur, hcur⟩ := hblk _ hk
      exact HX.out.2.2.2.2.2.ne_ hcur (by decide) rfl)
  refine hK _ _ (fun _ => HSY.out.2.2) ?_
  clear hK K
  try simp only [Act.put, List.setIfInBounds_toArray, List.set_cons_succ, List.set_cons_zero]
  have HF := Lib.hid (HSY.out.1.ofs ⟨1, 0, 0, s3⟩ H6.out.1 (by omega) HSY.out.2.1)
  refine wpPlan_act false rfl rfl rfl ?_; intro K hK
  go_simp
  refine HF.out.mono ?_
  intro e w9 hp
  have HP : Hid (PPost w g size lg R e w9) := Lib.hid (by rw [HE.out]; exact hp)
  rcases HP.out.cases with ⟨A9, n9, c9, rfl⟩ | ⟨l9, h9⟩
  · refine hK _ _ (fun h => by cases h) ?_
    clear hK K
    try simp only [Act.put, List.setIfInBounds_toArray, List.set_cons_succ, List.set_cons_zero]
    refine wpPlan_p rfl rfl rfl ?_; intro K hK
    go_big_quiet_op
    first | go_big_quiet_on | (refine ⟨_, fun _ _ => rfl, ?_⟩; go_big_quiet_on)
    refine wpPlan_endP ?_
    go_wp2_with fail
    go_ret
    exact HP.out
  · have HP2 := HP
    unfold thrown at h9
    subst h9
    exact And.intro rfl HP2.out
end Go.Proofs.YtbcadlocldplfaaDoor
