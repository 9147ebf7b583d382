/- Contract of Tick. -/
import Derived.Test.YtjodglepaeomiaaLea
namespace Go.Proofs.Ytjodglepaeomiaa
open Go.RowKit

theorem OutS.nil {w w1 : World} {g : Nat} {A : Option Addr} {S' : Sv} (k : KeepsM w g A S' w1) : OutS w g A S' [] (.returned (.slice none 0 0)) w1 :=
  .of k ⟨none, 0, rfl, MsR.nil _ _, Below.refl _ _⟩
theorem OutS.after {w w1 w' : World} {g : Nat} {A A1 : Option Addr} {S' : Sv} {ms : List Mg} {e : Ending} (h : Chg (SvT g A) w w1) (h0 : ∀ a, A1 = some a → (∃ a0, A = some a0 ∧ a.block = a0.block) ∨ w.heap.size ≤ a.block) (k : OutS w1 g A1 S' ms e w') : OutS w g A S' ms e w' := by
  obtain ⟨A', c', B, D, d, h1, h2, h3, h4, h5, rfl, h7⟩ := k
  obtain ⟨A2, c2, k1, k2, k3⟩ := KeepsM.trans h h0 ⟨A', c', h1, h2, h3⟩
  refine ⟨A', c', B, D, d, h1, ?_, ?_, Nat.le_trans h.size h4, h5, rfl, h7⟩
  · refine ⟨h2.os.trans h.os, h2.tape.trans h.tape, h2.output.trans h.output, Nat.le_trans h.size h2.size, fun i hi hn => ?_⟩
    refine (h2.block i (Nat.lt_of_lt_of_le hi h.size) (fun ht => ?_)).trans (h.block i hi hn)
    rcases SvT.sub (a0 := w.heap.size) h0 ht with h4 | h4
    · exact hn h4
    · omega
  · intro a ha
    rcases h3 a ha with ⟨a1, e1, e2⟩ | h4
    · rcases h0 a1 e1 with ⟨a2, e3, e4⟩ | h5
      · exact .inl ⟨a2, e3, e2.trans e4⟩
      · exact .inr (by omega)
    · exact .inr (Nat.le_trans h.size h4)
set_option maxRecDepth 100000 in
set_option maxHeartbeats 8000000 in
theorem tick_any (S : Sv) (g : Nat) (A : Option Addr) (c : Nat) (w : World) (hS : SvM w g S A c) (hok : S.Ok) :
    Calls Try.prog 9 #[.pointer (some ⟨g, 0, none⟩)] w (OutS w g A S.tick.1 S.tick.2) := by
  have hmf : ∀ (fn : Fn) (first cap : Array Value) (w : World), (Instr.makeFunc fn first cap).run Try.prog w = .ok (.func fn first cap) w := fun _ _ _ _ => rfl
  have HB0 : Hid (Below w.heap.size w (w.alloc (.cells #[.pointer (some ⟨g, 0, none⟩)] 22)) ∧ Blk (w.alloc (.cells #[.pointer (some ⟨g, 0, none⟩)] 22)) w.heap.size 22 #[.pointer (some ⟨g, 0, none⟩)]) := ⟨(Below.refl _ w).alloc (Nat.le_refl _) _, Blk.new _ _ _⟩
  have hS0 := hS.below HB0.out.1
  have hsz : (w.alloc (.cells #[.pointer (some ⟨g, 0, none⟩)] 22)).heap.size = w.heap.size + 1 := by simp
  have HOK := Lib.hid hok
  have hgl := hS.lt
  have hbg : ¬ w.heap.size = g := by omega
  go_enter Try.func9, Try.ntmps9
  go_wp2_with fail
  generalize w.alloc (.cells #[.pointer (some ⟨g, 0, none⟩)] 22) = w0 at *
  have HS := Lib.hid hS0
  have b0 : w0.cell? ⟨w.heap.size, 0, none⟩ = some (.pointer (some ⟨g, 0, none⟩)) := HB0.out.2.cell 0
  have HMD := Lib.hid (made_any w0 g S.n hS0.c1 (by have := hok.id; omega))
  have c1 := hS0.c1
  have c2 := hS0.c2
  have c5 := hS0.c5
  clear hS hok hS0
  go_wp2_with fail
  refine HMD.out.mono ?_
  rintro e w1 ⟨rfl, hw1⟩
  rw [hw1]
  clear hw1 w1 HMD
  by_cases hr : S.role = 2
  · have b1 : ((S.role : Int) == 2) = true := by rw [hr]; rfl
    have HT : Hid (S.tick = (S, S.outs)) := Lib.hid (by unfold Sv.tick; rw [if_pos hr])
    have HOT := Lib.hid (others_any S g A c w0 37 #[.pointer (some ⟨g, 0, none⟩)] #[] S.send HS.out HOK.out.n (fun _ _ => rfl) (fun k hk _ W hW => send_any S k g A c W (HS.out.below hW) HOK.out.len (Nat.lt_of_lt_of_le hk HOK.out.n) (HOK.out.nx1 hr k hk) (HOK.out.nxm hr k hk)))
    clear hr
    go_wp2_with fail
    refine HOT.out.mono ?_
    rintro e w4 ⟨D, d, rfl, hms, hb4⟩
    have HOUT : Hid (OutS w g A S S.outs (.returned (.slice D S.outs.length d)) w4) := OutS.of ⟨A, c, HS.out, .of_below HB0.out.1, fun a ha => .inl ⟨a, ha, rfl⟩⟩ ⟨D, d, rfl, hms, hb4⟩
    have HLEN : Hid ((List.map S.send S.ks).length = S.outs.length) := rfl
    rw [HLEN.out]
    clear hms hb4
    generalize S.outs.length = ol at HOUT ⊢
    go_wp2_with fail
    go_ret
    show OutS w g A S.tick.1 S.tick.2 _ _
    rw [HT.out]
    exact HOUT.out
  · have b1 : ((S.role : Int) == 2) = false := by simp; omega
    by_cases ht : S.term = 1152921504606846976
    · have b2 : (S.term == 1152921504606846976) = true := by rw [ht]; rfl
      have HT : Hid (S.tick = (S, [])) := Lib.hid (by unfold Sv.tick; rw [if_neg hr, if_pos ht])
      clear hr ht
      go_wp2_with fail
      go_ret
      show OutS w g A S.tick.1 S.tick.2 _ _
      rw [HT.out]
      exact OutS.nil ⟨A, c, HS.out, .of_below HB0.out.1, fun a ha => .inl ⟨a, ha, rfl⟩⟩
    · have b2 : (S.term == 1152921504606846976) = false := by simp [ht]
      have HT : Hid (S.tick = if S.n = 1 then (S.cand.lead, S.cand.lead.outs) else (S.cand, S.cand.asks)) := Lib.hid (by unfold Sv.tick; rw [if_neg hr, if_neg ht])
      have ht1 : -1 ≤ S.term ∧ S.term < 1152921504606846976 := by have := HOK.out.t0; have := HOK.out.t1; omega
      obtain ⟨ht0, ht1⟩ := ht1
      have f2 : w0.frozen? ⟨g, 2, none⟩ = false := HS.out.top.frozen 2
      have s2 := HS.out.set (S' := { S with term := S.term + 1 }) 2 (.int .i64 (S.term + 1)) rfl HS.out.nxl HS.out.mtl rfl
      have HS2 := Lib.hid s2
      clear hr ht s2
      go_wp2_with fail
      have HB2 : Hid (Blk (w0.setCell ⟨g, 2, none⟩ (.int .i64 (S.term + 1))) w.heap.size 22 #[.pointer (some ⟨g, 0, none⟩)]) := HB0.out.2.chg HS2.out.2 (fun h => hbg h)
      have hs2 : (w0.setCell ⟨g, 2, none⟩ (.int .i64 (S.term + 1))).heap.size = w.heap.size + 1 := by simp [World.setCell, hsz]
      have HCH2 : Hid (Chg (fun b => b = g) w (w0.setCell ⟨g, 2, none⟩ (.int .i64 (S.term + 1)))) := (Chg.of_below HB0.out.1).trans HS2.out.2
      have HM2 := Lib.hid HS2.out.1
      clear b0 c1 c2 c5 f2 HS2 HS HB0
      generalize w0.setCell ⟨g, 2, none⟩ (.int .i64 (S.term + 1)) = w2 at *
      have b0 : w2.cell? ⟨w.heap.size, 0, none⟩ = some (.pointer (some ⟨g, 0, none⟩)) := HB2.out.cell 0
      have c0 : w2.cell? ⟨g, 0, none⟩ = some (.int .i64 (S.id : Nat)) := HM2.out.c0
      have s3 := HM2.out.drew.set (S' := { S with term := S.term + 1, vote := S.id }) 3 (.int .i64 (S.id : Nat)) rfl HM2.out.nxl HM2.out.mtl rfl
      have s5 := s3.1.set (S' := { S with term := S.term + 1, vote := S.id, role := 1 }) 5 (.int .u8 1) rfl HM2.out.nxl HM2.out.mtl rfl
      have s6 := s5.1.set (S' := { S with term := S.term + 1, vote := S.id, role := 1, leader := -1 }) 6 (.int .i64 (-1)) rfl HM2.out.nxl HM2.out.mtl rfl
      have s8 := s6.1.set (S' := S.cand) 8 (.int .u64 ((2 ^ S.id : Nat) : Int)) rfl HM2.out.nxl HM2.out.mtl rfl
      have d3 : w2.cell? ⟨g, 3, none⟩ = _ := HM2.out.c3
      have g3 : w2.frozen? ⟨g, 3, none⟩ = false := HM2.out.top.frozen 3
      have d5 : (w2.setCell ⟨g, 3, none⟩ (.int .i64 (S.id : Nat))).cell? ⟨g, 5, none⟩ = _ := s3.1.c5
      have g5 : (w2.setCell ⟨g, 3, none⟩ (.int .i64 (S.id : Nat))).frozen? ⟨g, 5, none⟩ = false := s3.1.top.frozen 5
      have d6 : ((w2.setCell ⟨g, 3, none⟩ (.int .i64 (S.id : Nat))).setCell ⟨g, 5, none⟩ (.int .u8 1)).cell? ⟨g, 6, none⟩ = _ := s5.1.c6
      have g6 : ((w2.setCell ⟨g, 3, none⟩ (.int .i64 (S.id : Nat))).setCell ⟨g, 5, none⟩ (.int .u8 1)).frozen? ⟨g, 6, none⟩ = false := s5.1.top.frozen 6
      have d8 : (((w2.setCell ⟨g, 3, none⟩ (.int .i64 (S.id : Nat))).setCell ⟨g, 5, none⟩ (.int .u8 1)).setCell ⟨g, 6, none⟩ (.int .i64 (-1))).cell? ⟨g, 8, none⟩ = _ := s6.1.c8
      have g8 : (((w2.setCell ⟨g, 3, none⟩ (.int .i64 (S.id : Nat))).setCell ⟨g, 5, none⟩ (.int .u8 1)).setCell ⟨g, 6, none⟩ (.int .i64 (-1))).frozen? ⟨g, 8, none⟩ = false := s6.1.top.frozen 8
      have hb3 := HB2.out.drew.chg s3.2 (fun h => hbg h)
      have hb5 := hb3.chg s5.2 (fun h => hbg h)
      have hb6 := hb5.chg s6.2 (fun h => hbg h)
      have F3 := Lib.hid (And.intro (hb3.cell 0) s3.1.c0)
      have F5 := Lib.hid (And.intro (hb5.cell 0) s5.1.c0)
      have F6 := Lib.hid (And.intro (hb6.cell 0) s6.1.c0)
      clear hb3 hb5 hb6
      have HS8 := Lib.hid (And.intro s8.1 (s3.2.trans (s5.2.trans (s6.2.trans s8.2))))
      clear s3 s5 s6 s8
      have hsh : IntKind.u64.wrap ((2 : Int) ^ min S.id 64) = (2 : Int) ^ S.id := by
        have h1 := HOK.out.id
        have h2 := HOK.out.n
        rcases (show S.id = 0 ∨ S.id = 1 ∨ S.id = 2 ∨ S.id = 3 ∨ S.id = 4 ∨ S.id = 5 ∨ S.id = 6 by omega) with h | h | h | h | h | h | h <;> rw [h] <;> rfl
      refine wp_region_plan (.q 0 (.q 1 (.q 2 (.q 3 (.q 4 (.q 5 (.q 6 (.q 7 (.q 8 (.q 9 (.q 10 (.q 11 (.q 12 (.q 13 (.q 14 (.q 15 (.a1 16 (.q 17 (.q 18 (.a1 19 (.q 20 (.q 21 (.a1 22 (.q 23 (.q 24 (.a1 25 .fin)))))))))))))))))))))))))) 25 (fun W => Hid (W.cell? ⟨w.heap.size, 0, none⟩ = some (.pointer (some ⟨g, 0, none⟩)) ∧ W.cell? ⟨g, 0, none⟩ = some (.int .i64 (S.id : Nat)))) (by kernel_rfl) rfl (by kernel_rfl) ⟨b0, c0⟩ ?_
      refine wpPlan_q rfl rfl rfl ?_; intro K hK
      refine ⟨(.pointer (some ⟨g, 0, none⟩)), fun W hW => ?_, ?_⟩
      · have q0 := hW.out.1
        unfold Oper.quietAt Oper.quietUpon
        simp [go_sem, q0]
      refine hK _ ?_
      clear hK K
      try simp only [Act.put, List.setIfInBounds_toArray, List.set_cons_succ, List.set_cons_zero]
      refine wpPlan_q rfl rfl rfl ?_; intro K hK
      refine ⟨(.pointer (some ⟨g, 0, none⟩)), fun W hW => ?_, ?_⟩
      · have q0 := hW.out.1
        unfold Oper.quietAt Oper.quietUpon
        simp [go_sem, q0]
      refine hK _ ?_
      clear hK K
      try simp only [Act.put, List.setIfInBounds_toArray, List.set_cons_succ, List.set_cons_zero]
      refine wpPlan_q rfl rfl rfl ?_; intro K hK
      refine ⟨(.pointer (some ⟨g, 0, none⟩)), fun W hW => ?_, ?_⟩
      · have q0 := hW.out.1
        unfold Oper.quietAt Oper.quietUpon
        simp [go_sem, q0]
      refine hK _ ?_
      clear hK K
      try simp only [Act.put, List.setIfInBounds_toArray, List.set_cons_succ, List.set_cons_zero]
      refine wpPlan_q rfl rfl rfl ?_; intro K hK
      refine ⟨(.pointer (some ⟨g, 0, none⟩)), fun W hW => ?_, ?_⟩
      · have q0 := hW.out.1
        unfold Oper.quietAt Oper.quietUpon
        simp [go_sem, q0]
      refine hK _ ?_
      clear hK K
      try simp only [Act.put, List.setIfInBounds_toArray, List.set_cons_succ, List.set_cons_zero]
      refine wpPlan_q rfl rfl rfl ?_; intro K hK
      refine ⟨(.pointer (some ⟨g, 0, none⟩)), fun W hW => ?_, ?_⟩
      · have q0 := hW.out.1
        unfold Oper.quietAt Oper.quietUpon
        simp [go_sem, q0]
      refine hK _ ?_
      clear hK K
      try simp only [Act.put, List.setIfInBounds_toArray, List.set_cons_succ, List.set_cons_zero]
      refine wpPlan_q rfl rfl rfl ?_; intro K hK
      go_big_quiet_op
      first | go_big_quiet_on | (refine ⟨_, fun _ _ => rfl, ?_⟩; go_big_quiet_on)
      refine wpPlan_q rfl rfl rfl ?_; intro K hK
      go_big_quiet_op
      first | go_big_quiet_on | (refine ⟨_, fun _ _ => rfl, ?_⟩; go_big_quiet_on)
      refine wpPlan_q rfl rfl rfl ?_; intro K hK
      refine ⟨(.int .i64 (S.id : Nat)), fun W hW => ?_, ?_⟩
      · have q0 := hW.out.2
        unfold Oper.quietAt Oper.quietUpon
        simp [go_sem, q0]
      refine hK _ ?_
      clear hK K
      try simp only [Act.put, List.setIfInBounds_toArray, List.set_cons_succ, List.set_cons_zero]
      refine wpPlan_q rfl rfl rfl ?_; intro K hK
      refine ⟨(.pointer (some ⟨g, 0, none⟩)), fun W hW => ?_, ?_⟩
      · have q0 := hW.out.1
        unfold Oper.quietAt Oper.quietUpon
        simp [go_sem, q0]
      refine hK _ ?_
      clear hK K
      try simp only [Act.put, List.setIfInBounds_toArray, List.set_cons_succ, List.set_cons_zero]
      refine wpPlan_q rfl rfl rfl ?_; intro K hK
      go_big_quiet_op
      first | go_big_quiet_on | (refine ⟨_, fun _ _ => rfl, ?_⟩; go_big_quiet_on)
      refine wpPlan_q rfl rfl rfl ?_; intro K hK
      go_big_quiet_op
      first | go_big_quiet_on | (refine ⟨_, fun _ _ => rfl, ?_⟩; go_big_quiet_on)
      refine wpPlan_q rfl rfl rfl ?_; intro K hK
      refine ⟨(.int .i64 (S.id : Nat)), fun W hW => ?_, ?_⟩
      · have q0 := hW.out.2
        unfold Oper.quietAt Oper.quietUpon
        simp [go_sem, q0]
      refine hK _ ?_
      clear hK K
      try simp only [Act.put, List.setIfInBounds_toArray, List.set_cons_succ, List.set_cons_zero]
      refine wpPlan_q rfl rfl rfl ?_; intro K hK
      refine ⟨(.int .u64 ((2 ^ S.id : Nat) : Int)), fun W hW => ?_, ?_⟩
      · unfold Oper.quietAt Oper.quietUpon
        simp [go_sem]
        exact hsh
      refine hK _ ?_
      clear hK K
      try simp only [Act.put, List.setIfInBounds_toArray, List.set_cons_succ, List.set_cons_zero]
      refine wpPlan_q rfl rfl rfl ?_; intro K hK
      go_big_quiet_op
      first | go_big_quiet_on | (refine ⟨_, fun _ _ => rfl, ?_⟩; go_big_quiet_on)
      refine wpPlan_q rfl rfl rfl ?_; intro K hK
      go_big_quiet_op
      first | go_big_quiet_on | (refine ⟨_, fun _ _ => rfl, ?_⟩; go_big_quiet_on)
      refine wpPlan_q rfl rfl rfl ?_; intro K hK
      go_big_quiet_op
      first | go_big_quiet_on | (refine ⟨_, fun _ _ => rfl, ?_⟩; go_big_quiet_on)
      refine wpPlan_act true rfl rfl rfl ?_; intro K hK
      go_simp
      refine hK _ _ (fun _ => F3) ?_
      clear hK K
      try simp only [Act.put, List.setIfInBounds_toArray, List.set_cons_succ, List.set_cons_zero]
      refine wpPlan_q rfl rfl rfl ?_; intro K hK
      go_big_quiet_op
      first | go_big_quiet_on | (refine ⟨_, fun _ _ => rfl, ?_⟩; go_big_quiet_on)
      refine wpPlan_q rfl rfl rfl ?_; intro K hK
      go_big_quiet_op
      first | go_big_quiet_on | (refine ⟨_, fun _ _ => rfl, ?_⟩; go_big_quiet_on)
      refine wpPlan_act true rfl rfl rfl ?_; intro K hK
      go_simp
      refine hK _ _ (fun _ => F5) ?_
      clear hK K
      try simp only [Act.put, List.setIfInBounds_toArray, List.set_cons_succ, List.set_cons_zero]
      refine wpPlan_q rfl rfl rfl ?_; intro K hK
      go_big_quiet_op
      first | go_big_quiet_on | (refine ⟨_, fun _ _ => rfl, ?_⟩; go_big_quiet_on)
      refine wpPlan_q rfl rfl rfl ?_; intro K hK
      go_big_quiet_op
      first | go_big_quiet_on | (refine ⟨_, fun _ _ => rfl, ?_⟩; go_big_quiet_on)
      refine wpPlan_act true rfl rfl rfl ?_; intro K hK
      go_simp
      refine hK _ _ (fun _ => F6) ?_
      clear hK K
      try simp only [Act.put, List.setIfInBounds_toArray, List.set_cons_succ, List.set_cons_zero]
      refine wpPlan_q rfl rfl rfl ?_; intro K hK
      go_big_quiet_op
      first | go_big_quiet_on | (refine ⟨_, fun _ _ => rfl, ?_⟩; go_big_quiet_on)
      refine wpPlan_q rfl rfl rfl ?_; intro K hK
      go_big_quiet_op
      first | go_big_quiet_on | (refine ⟨_, fun _ _ => rfl, ?_⟩; go_big_quiet_on)
      refine wpPlan_act false rfl rfl rfl ?_; intro K hK
      go_simp
      refine hK _ _ (fun h => by cases h) ?_
      clear hK K
      try simp only [Act.put, List.setIfInBounds_toArray, List.set_cons_succ, List.set_cons_zero]
      refine wpPlan_fin ?_
      obtain ⟨w5, hw5⟩ : ∃ x, x = ((((w2.setCell ⟨g, 3, none⟩ (.int .i64 (S.id : Nat))).setCell ⟨g, 5, none⟩ (.int .u8 1)).setCell ⟨g, 6, none⟩ (.int .i64 (-1))).setCell ⟨g, 8, none⟩ (.int .u64 ((2 : Int) ^ S.id))).drew := ⟨_, rfl⟩
      rw [← hw5]
      have HM5 : Hid (SvM w5 g S.cand A c ∧ Chg (fun b => b = g) w2 w5) := by
        have h := HS8.out
        rw [show (((2 ^ S.id : Nat)) : Int) = (2 : Int) ^ S.id by simp] at h
        rw [hw5]
        exact ⟨h.1, (Chg.refl (fun b => b = g) w2).drew.trans h.2⟩
      clear hw5 b0 c0 d3 g3 d5 g5 d6 g6 d8 g8 hsh HS8
      have HBK5 : Hid (Blk w5 w.heap.size 22 #[.pointer (some ⟨g, 0, none⟩)]) := HB2.out.chg HM5.out.2 (fun h => hbg h)
      have b0 : w5.cell? ⟨w.heap.size, 0, none⟩ = some (.pointer (some ⟨g, 0, none⟩)) := HBK5.out.cell 0
      have c1 : w5.cell? ⟨g, 1, none⟩ = some (.int .i64 (S.n : Nat)) := HM5.out.1.c1
      have HCH5 : Hid (Chg (SvT g A) w w5 ∧ ∀ a, A = some a → (∃ a0, A = some a0 ∧ a.block = a0.block) ∨ w.heap.size ≤ a.block) := ⟨(HCH2.out.trans HM5.out.2).mono (fun b hb => .inl hb), fun a ha => .inl ⟨a, ha, rfl⟩⟩
      clear HM2 HB2 HCH2
      by_cases h1 : S.n = 1
      · have e1 : ((S.n : Int) == 1) = true := by rw [h1]; rfl
        have HLD := Lib.hid (lead_any S.cand g A c w5 HM5.out.1 HOK.out.len HOK.out.n (Nat.le_trans HOK.out.com HOK.out.len))
        have HT1 : Hid (S.tick = (S.cand.lead, S.cand.lead.outs)) := Lib.hid (by rw [HT.out, if_pos h1])
        clear h1
        go_wp2_with fail
        refine HLD.out.mono ?_
        intro e w6 hout
        have HO := Lib.hid (OutS.after HCH5.out.1 HCH5.out.2 hout)
        clear hout
        obtain ⟨A', c', B, D, d, _, _, _, _, _, rfl, _⟩ := HO.out
        generalize S.cand.lead.outs.length = ol at *
        go_wp2_with fail
        go_ret
        show OutS w g A S.tick.1 S.tick.2 _ _
        rw [HT1.out]
        exact HO.out
      · have e1 : ((S.n : Int) == 1) = false := by simp; omega
        have HT1 : Hid (S.tick = (S.cand, S.cand.asks)) := Lib.hid (by rw [HT.out, if_neg h1])
        have HOT := Lib.hid (others_any S.cand g A c w5 39 #[] #[.pointer (some ⟨w.heap.size, 0, none⟩)] S.cand.ask HM5.out.1 HOK.out.n (fun _ _ => rfl) (fun k hk _ W hW => ask_any S.cand k g w.heap.size A c W (HM5.out.1.below hW) HOK.out.len ((HBK5.out.below hW HBK5.out.lt).cell 0) (Nat.lt_of_lt_of_le HBK5.out.lt hW.size)))
        clear h1
        go_wp2_with fail
        refine HOT.out.mono ?_
        rintro e w6 ⟨D, d, rfl, hms, hb6⟩
        have HO : Hid (OutS w g A S.cand S.cand.asks (.returned (.slice D S.cand.asks.length d)) w6) := OutS.of ⟨A, c, HM5.out.1, HCH5.out.1, HCH5.out.2⟩ ⟨D, d, rfl, hms, hb6⟩
        have HLEN : Hid ((List.map S.cand.ask S.cand.ks).length = S.cand.asks.length) := rfl
        rw [HLEN.out]
        clear hms hb6
        generalize S.cand.asks.length = ol at HO ⊢
        go_wp2_with fail
        go_ret
        show OutS w g A S.tick.1 S.tick.2 _ _
        rw [HT1.out]
        exact HO.out
end Go.Proofs.Ytjodglepaeomiaa
