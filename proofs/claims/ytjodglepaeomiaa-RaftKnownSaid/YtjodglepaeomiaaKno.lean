/- RaftKnown's walk. -/
import Derived.Test.YtjodglepaeomiaaKn0
namespace Go.Proofs.Ytjodglepaeomiaa
open Go.RowKit

set_option maxRecDepth 100000 in
set_option maxHeartbeats 16000000 in
theorem known_walk (w : World) : Calls Try.prog 3 #[] w fun e w' => e = .returned (.bool true) ∧ Below w.heap.size w w' := by
  go_enter Try.func3, Try.ntmps3
  have HA0 : Hid (Below w.heap.size w (w.alloc (.cells #[.pointer none, .pointer none, .pointer none] 23)) ∧ Blk (w.alloc (.cells #[.pointer none, .pointer none, .pointer none] 23)) w.heap.size 23 #[.pointer none, .pointer none, .pointer none] ∧ (w.alloc (.cells #[.pointer none, .pointer none, .pointer none] 23)).heap.size = w.heap.size + 1) := Lib.hid ⟨(Below.refl _ w).alloc (Nat.le_refl _) _, Blk.new _ _ _, by simp⟩
  go_wp2_with fail
  generalize w.alloc (.cells #[.pointer none, .pointer none, .pointer none] 23) = wa at *
  go_loopw [2] (fun s2 wr => ∃ (k : Nat) (l : List (Nat × Sv)), s2 = .int .i64 (k : Nat) ∧ k ≤ 3 ∧ l.length = k ∧ (∀ i p, l[i]? = some p → p.2 = S3 i) ∧ Blk wr w.heap.size 23 (ptrs l).toArray ∧ Srvs wr (fun b => b ≤ w.heap.size) l ∧ Below w.heap.size w wr) (fun s2 _ => 3 - (intOf s2).toNat)
  case atStart => exact ⟨0, [], rfl, by omega, rfl, fun i p h => by simp at h, HA0.out.2.1, Srvs.nil _ _, HA0.out.1⟩
  case round =>
    obtain ⟨k, l, rfl, hk, hl, hS, hbk, hsr, hb⟩ := hrel
    have HR := Lib.hid (And.intro hl (And.intro hS (And.intro hbk (And.intro hsr hb))))
    clear hl hS hbk hsr hb
    by_cases hk3 : k < 3
    · have d1 : decide ((k : Int) < 3) = true := decide_eq_true (by omega)
      go_wp2_with fail
      refine (new_any (k : Nat) 3 0 (-1) [] none 0 wr (RdE.nil wr) (by decide) (fun _ => rfl)).mono ?_
      intro e w1 hp
      unfold NewPost at hp
      rw [if_neg (by omega), if_neg (by show ¬ (true = false); decide)] at hp
      obtain ⟨⟨g, A, c, rfl, hg, hA, hm⟩, hb⟩ := hp
      have hx : ∀ b, (fun b => b ≤ w.heap.size) b → b < wr.heap.size := fun b hb => Nat.lt_of_le_of_lt hb HR.out.2.2.1.lt
      have hpu := HR.out.2.2.2.1.push hx hb (S := S3 k) hm hg hA
      have hbk := HR.out.2.2.1.below hb HR.out.2.2.1.lt
      have y : w1.cell? ⟨w.heap.size, k, none⟩ = some (.pointer none) := by
        rw [hbk.cell k, List.getElem?_toArray]
        unfold ptrs
        rw [List.getElem?_append_right (by rw [List.length_map, HR.out.1]; exact Nat.le_refl _), List.length_map, HR.out.1, Nat.sub_self, List.getElem?_replicate, if_pos (by omega)]
      have f : w1.frozen? ⟨w.heap.size, k, none⟩ = false := hbk.frozen k
      have H1 : Hid (Srvs w1 (fun b => b ≤ w.heap.size) (l ++ [(g, S3 k)]) ∧ Blk w1 w.heap.size 23 (ptrs l).toArray ∧ Below w.heap.size w w1) := Lib.hid ⟨hpu, hbk, HR.out.2.2.2.2.trans (hb.mono HR.out.2.2.2.2.size)⟩
      clear hg hA hm hb hx hpu hbk
      have k0 : (0 : Int) ≤ (k : Int) := by omega
      have k3 : (k : Int) < 3 := by omega
      go_wp2_with fail
      go_roundw
      case rel =>
        have hch : Chg (fun b => b = w.heap.size) w1 (w1.setCell ⟨w.heap.size, k, none⟩ (.pointer (some ⟨g, 0, none⟩))) := Chg.setCell (T := fun b => b = w.heap.size) (Chg.refl _ _) (p := ⟨w.heap.size, k, none⟩) rfl _
        refine ⟨k + 1, l ++ [(g, S3 k)], by go_num, by omega, by rw [List.length_append, List.length_singleton, HR.out.1], fun i p hp => ?_, ?_, H1.out.1.chg (hch.mono (fun b hb => Nat.le_of_eq hb)) (fun b hb => .inl hb), Chg.below H1.out.2.2 hch H1.out.2.2.size (fun b hb => Nat.le_of_eq hb.symm)⟩
        · rw [List.getElem?_append] at hp
          by_cases hi : i < l.length
          · rw [if_pos hi] at hp; exact HR.out.2.1 i p hp
          · rw [if_neg hi] at hp
            have hi0 : i - l.length = 0 := by
              rcases Nat.eq_zero_or_pos (i - l.length) with h | h
              · exact h
              · rw [List.getElem?_eq_none (by simp; omega)] at hp; cases hp
            rw [hi0] at hp
            have hp := Option.some.inj hp
            subst hp
            show S3 k = S3 i
            rw [show i = k by have := HR.out.1; omega]
        · have h := H1.out.2.1.set_ k (.pointer (some ⟨g, 0, none⟩))
          rw [List.setIfInBounds_toArray] at h
          have e : (ptrs l).set k (.pointer (some ⟨g, 0, none⟩)) = ptrs (l ++ [(g, S3 k)]) := by
            have h2 := ptrs_push l (g, S3 k) (by rw [HR.out.1]; exact hk3)
            rw [HR.out.1] at h2
            exact h2
          rw [e] at h
          exact h
      case measure => simp [intOf]; omega
    · have d1 : decide ((k : Int) < 3) = false := decide_eq_false (by omega)
      obtain ⟨p0, p1, p2, hl3⟩ : ∃ p0 p1 p2, l = [p0, p1, p2] := by
        match l, (show l.length = 3 by rw [HR.out.1]; omega) with
        | [a, b, c], _ => exact ⟨a, b, c, rfl⟩
      subst hl3
      obtain ⟨g0, S0⟩ := p0
      obtain ⟨g1, S1⟩ := p1
      obtain ⟨g2, S2⟩ := p2
      have hs := HR.out.2.1
      obtain rfl : S0 = S3 0 := hs 0 _ rfl
      obtain rfl : S1 = S3 1 := hs 1 _ rfl
      obtain rfl : S2 = S3 2 := hs 2 _ rfl
      have H0 : Hid (Stg w wr (fun b => b ≤ w.heap.size) [(g0, S3 0), (g1, S3 1), (g2, S3 2)]) := Lib.hid ⟨HR.out.2.2.2.1, HR.out.2.2.1, fun b hb => Nat.lt_of_le_of_lt hb HR.out.2.2.1.lt, fun b hb => hb, HR.out.2.2.2.2⟩
      clear HR hs hk hk3
      have y0 : wr.cell? ⟨w.heap.size, 0, none⟩ = some (.pointer (some ⟨g0, 0, none⟩)) := H0.out.2.1.cell 0
      go_wp2_with fail
      refine (H0.out.1.tick H0.out.2.2.1 (i := 0) rfl (S3_good (by decide))).mono ?_
      rw [k_ask]
      intro e w1 hd
      obtain ⟨D1, d1, X1, rfl, hs1, hm1, hx1, hc1⟩ := H0.out.did rfl hd
      have H1 : Hid (Stg w w1 X1 [(g0, kT0), (g1, S3 1), (g2, S3 2)] ∧ MsX w1 X1 D1 2 d1 [kAsk, kT0.ask 2]) := Lib.hid ⟨hs1, hm1⟩
      clear hd hs1 hm1 hx1 hc1 y0
      have y1 : w1.cell? ⟨w.heap.size, 1, none⟩ = some (.pointer (some ⟨g1, 0, none⟩)) := H1.out.1.2.1.cell 1
      simp only [List.length_cons, List.length_nil, Nat.zero_add, Nat.reduceAdd]
      go_wp2_with fail
      obtain ⟨bm2, E2, e2, hD2, hcl2, how2, hXb2, hXe2⟩ := H1.out.2.at_ (k := 0) rfl
      subst hD2
      have HMC2 : Hid (∀ W, Below w1.heap.size w1 W → W.cell? ⟨bm2, 0, none⟩ = some (.int .u8 (kAsk.kind : Nat)) ∧ W.cell? ⟨bm2, 1, none⟩ = some (.int .i64 kAsk.frm) ∧ W.cell? ⟨bm2, 2, none⟩ = some (.int .i64 kAsk.to) ∧ W.cell? ⟨bm2, 3, none⟩ = some (.int .i64 kAsk.term) ∧ W.cell? ⟨bm2, 4, none⟩ = some (.int .i64 kAsk.index) ∧ W.cell? ⟨bm2, 5, none⟩ = some (.int .i64 kAsk.logTerm) ∧ W.cell? ⟨bm2, 6, none⟩ = some (.slice E2 kAsk.ents.length e2) ∧ W.cell? ⟨bm2, 7, none⟩ = some (.int .i64 kAsk.commit) ∧ W.cell? ⟨bm2, 8, none⟩ = some (.bool kAsk.ok)) := Lib.hid (fun W hW => by
        have hlt := H1.out.1.2.2.1 _ hXb2
        have hk : ∀ j v, (mcell E2 e2 kAsk)[j]? = some v → W.cell? ⟨bm2, j, none⟩ = some v := fun j v hj => by
          have h := hcl2 j v hj
          rw [Nat.zero_mul, Nat.zero_add] at h
          exact (World.cell?_of_block (hW.block _ hlt)).trans h
        exact ⟨hk 0 _ rfl, hk 1 _ rfl, hk 2 _ rfl, hk 3 _ rfl, hk 4 _ rfl, hk 5 _ rfl, hk 6 _ rfl, hk 7 _ rfl, hk 8 _ rfl⟩)
      have HOW2 := Lib.hid (And.intro how2 hXe2)
      have HPT2 : Hid (∀ W, Below w1.heap.size w1 W → W.cell? ⟨w.heap.size, 1, none⟩ = some (.pointer (some ⟨g1, 0, none⟩))) := Lib.hid (fun W hW => (H1.out.1.2.1.below hW H1.out.1.2.1.lt).cell 1)
      clear hcl2 how2 hXb2 hXe2
      refine wp_region_plan (.q 0 (.q 1 (.q 2 (.q 3 (.q 4 (.a1 5 (.q 6 .fin))))))) 5 (fun W => Below w1.heap.size w1 W) (by kernel_rfl) rfl (by kernel_rfl) (Below.refl _ _).drew ?_
      refine wpPlan_q rfl rfl rfl ?_; intro K hK
      go_big_quiet_op
      first | go_big_quiet_on | (refine ⟨_, fun _ _ => rfl, ?_⟩; go_big_quiet_on)
      refine wpPlan_q rfl rfl rfl ?_; intro K hK
      refine ⟨(.pointer (some ⟨g1, 0, none⟩)), fun W hW => ?_, ?_⟩
      · have q0 := HPT2.out W hW
        unfold Oper.quietAt Oper.quietUpon
        simp [go_sem, q0]
      refine hK _ ?_
      clear hK K
      try simp only [Act.put, List.setIfInBounds_toArray, List.set_cons_succ, List.set_cons_zero]
      refine wpPlan_q rfl rfl rfl ?_; intro K hK
      go_big_quiet_op
      first | go_big_quiet_on | (refine ⟨_, fun _ _ => rfl, ?_⟩; go_big_quiet_on)
      refine wpPlan_q rfl rfl rfl ?_; intro K hK
      go_big_quiet_op
      first | go_big_quiet_on | (refine ⟨_, fun _ _ => rfl, ?_⟩; go_big_quiet_on)
      refine wpPlan_q rfl rfl rfl ?_; intro K hK
      refine ⟨(.agg (mcell E2 e2 kAsk).toArray), fun W hW => ?_, ?_⟩
      · obtain ⟨q0, q1, q2, q3, q4, q5, q6, q7, q8⟩ := HMC2.out W hW
        unfold Oper.quietAt Oper.quietUpon
        simp [go_sem, q0, q1, q2, q3, q4, q5, q6, q7, q8, mcell]
      refine hK _ ?_
      clear hK K
      try simp only [Act.put, List.setIfInBounds_toArray, List.set_cons_succ, List.set_cons_zero]
      refine wpPlan_act false rfl rfl rfl ?_; intro K hK
      go_simp
      refine (((H1.out.1.below (Below.refl _ _).drew).1.handleX H1.out.1.2.2.1 (i := 1) rfl (S3_good (by decide)) kAsk_ok (by have h := HOW2.out.1; exact h) HOW2.out.2)).mono ?_
      rw [k_vote]
      intro e w9 hd
      obtain ⟨D2, d2, X2, rfl, hs2, hm2, hx2, hc2⟩ := (H1.out.1.below (Below.refl _ _).drew).did rfl hd
      have H2 : Hid (Stg w w9 X2 [(g0, kT0), (g1, kV1), (g2, S3 2)] ∧ MsX w9 X2 D2 1 d2 [kVote] ∧ MsX w9 X2 (some ⟨bm2, 0, none⟩) 2 d1 [kAsk, kT0.ask 2]) := Lib.hid ⟨hs2, hm2, (H1.out.2.below (Below.refl _ _).drew).keep hx2 hc2⟩
      clear hd hs2 hm2 hx2 hc2
      refine hK _ _ (fun h => by cases h) ?_
      clear hK K
      try simp only [Act.put, List.setIfInBounds_toArray, List.set_cons_succ, List.set_cons_zero]
      refine wpPlan_p rfl rfl rfl ?_; intro K hK
      go_big_quiet_op
      first | go_big_quiet_on | (refine ⟨_, fun _ _ => rfl, ?_⟩; go_big_quiet_on)
      refine wpPlan_fin ?_
      obtain ⟨bq3, E3, e3, hD3, hcl3, how3, hXb3, hXe3⟩ := H2.out.2.2.at_ (k := 0) rfl
      obtain rfl : bm2 = bq3 := by injection hD3 with h; injection h with h
      clear hD3
      have HCL3 : Hid (∀ j v, (mcell E3 e3 kAsk)[j]? = some v → w9.cell? ⟨bm2, j, none⟩ = some v) := Lib.hid (fun j v hj => by have h := hcl3 j v hj; rw [Nat.zero_mul, Nat.zero_add] at h; exact h)
      have x0 : w9.cell? ⟨bm2, 0, none⟩ = some (.int .u8 (kAsk.kind : Nat)) := HCL3.out 0 _ rfl
      have x1 : w9.cell? ⟨bm2, 1, none⟩ = some (.int .i64 kAsk.frm) := HCL3.out 1 _ rfl
      have x2 : w9.cell? ⟨bm2, 2, none⟩ = some (.int .i64 kAsk.to) := HCL3.out 2 _ rfl
      have x3 : w9.cell? ⟨bm2, 3, none⟩ = some (.int .i64 kAsk.term) := HCL3.out 3 _ rfl
      have x4 : w9.cell? ⟨bm2, 4, none⟩ = some (.int .i64 kAsk.index) := HCL3.out 4 _ rfl
      have x5 : w9.cell? ⟨bm2, 5, none⟩ = some (.int .i64 kAsk.logTerm) := HCL3.out 5 _ rfl
      have x6 : w9.cell? ⟨bm2, 6, none⟩ = some (.slice E3 kAsk.ents.length e3) := HCL3.out 6 _ rfl
      have x7 : w9.cell? ⟨bm2, 7, none⟩ = some (.int .i64 kAsk.commit) := HCL3.out 7 _ rfl
      have x8 : w9.cell? ⟨bm2, 8, none⟩ = some (.bool kAsk.ok) := HCL3.out 8 _ rfl
      have HOW3 := Lib.hid (And.intro how3 (And.intro hXe3 hXb3))
      clear hcl3 how3 hXe3 hXb3
      have HBO : Hid (Blk (w9.alloc (.cells #[.int .u8 (kAsk.kind : Nat), .int .i64 2, .int .i64 kAsk.to, .int .i64 kAsk.term, .int .i64 kAsk.index, .int .i64 kAsk.logTerm, .slice E3 kAsk.ents.length e3, .int .i64 kAsk.commit, .bool kAsk.ok] 34)) w9.heap.size 34 (mcell E3 e3 kOth).toArray ∧ Below w9.heap.size w9 (w9.alloc (.cells #[.int .u8 (kAsk.kind : Nat), .int .i64 2, .int .i64 kAsk.to, .int .i64 kAsk.term, .int .i64 kAsk.index, .int .i64 kAsk.logTerm, .slice E3 kAsk.ents.length e3, .int .i64 kAsk.commit, .bool kAsk.ok] 34))) := Lib.hid ⟨Blk.new w9 34 #[.int .u8 (kAsk.kind : Nat), .int .i64 2, .int .i64 kAsk.to, .int .i64 kAsk.term, .int .i64 kAsk.index, .int .i64 kAsk.logTerm, .slice E3 kAsk.ents.length e3, .int .i64 kAsk.commit, .bool kAsk.ok], (Below.refl _ w9).alloc (Nat.le_refl _) _⟩
      have yy : (w9.alloc (.cells #[.int .u8 (kAsk.kind : Nat), .int .i64 2, .int .i64 kAsk.to, .int .i64 kAsk.term, .int .i64 kAsk.index, .int .i64 kAsk.logTerm, .slice E3 kAsk.ents.length e3, .int .i64 kAsk.commit, .bool kAsk.ok] 34)).cell? ⟨w.heap.size, 1, none⟩ = some (.pointer (some ⟨g1, 0, none⟩)) := (H2.out.1.2.1.below HBO.out.2 H2.out.1.2.1.lt).cell 1
      simp only [List.length_cons, List.length_nil, Nat.zero_add, Nat.reduceAdd]
      go_wp2_with (first | (refine wpList_load_row rfl 34 _ rfl w9.heap.size rfl 34 (mcell E3 e3 kOth).toArray (0, 0) _ HBO.out.1 Try.underlying34 rfl (by kernel_rfl) ?_) | fail)
      have H3 : Hid (Stg w (w9.alloc (.cells #[.int .u8 (kAsk.kind : Nat), .int .i64 2, .int .i64 kAsk.to, .int .i64 kAsk.term, .int .i64 kAsk.index, .int .i64 kAsk.logTerm, .slice E3 kAsk.ents.length e3, .int .i64 kAsk.commit, .bool kAsk.ok] 34)) X2 [(g0, kT0), (g1, kV1), (g2, S3 2)] ∧ MsX (w9.alloc (.cells #[.int .u8 (kAsk.kind : Nat), .int .i64 2, .int .i64 kAsk.to, .int .i64 kAsk.term, .int .i64 kAsk.index, .int .i64 kAsk.logTerm, .slice E3 kAsk.ents.length e3, .int .i64 kAsk.commit, .bool kAsk.ok] 34)) X2 D2 1 d2 [kVote]) := Lib.hid ⟨H2.out.1.below HBO.out.2, H2.out.2.1.below HBO.out.2⟩
      have HOW3 : Hid ((w9.alloc (.cells #[.int .u8 (kAsk.kind : Nat), .int .i64 2, .int .i64 kAsk.to, .int .i64 kAsk.term, .int .i64 kAsk.index, .int .i64 kAsk.logTerm, .slice E3 kAsk.ents.length e3, .int .i64 kAsk.commit, .bool kAsk.ok] 34)).ownsRow 0 39 2 (.slice E3 kAsk.ents.length e3) kAsk.ents.length (rowOf ecell kAsk.ents) ∧ ∀ b, (Value.slice E3 kAsk.ents.length e3).ownBlock = some b → X2 b) := Lib.hid ⟨own_below HOW3.out.1 HBO.out.2, HOW3.out.2.1⟩
      clear HBO yy x0 x1 x2 x3 x4 x5 x6 x7 x8 HCL3
      generalize w9.alloc (.cells #[.int .u8 (kAsk.kind : Nat), .int .i64 2, .int .i64 kAsk.to, .int .i64 kAsk.term, .int .i64 kAsk.index, .int .i64 kAsk.logTerm, .slice E3 kAsk.ents.length e3, .int .i64 kAsk.commit, .bool kAsk.ok] 34) = wb at *
      refine ((H3.out.1.1.handleX H3.out.1.2.2.1 (i := 1) rfl kV1_good kOth_ok HOW3.out.1 HOW3.out.2)).mono ?_
      rw [k_no]
      intro e w10 hd
      obtain ⟨D3, d3, X3, rfl, hs3, hm3, hx3, hc3⟩ := H3.out.1.did rfl hd
      have H4 : Hid (Stg w w10 X3 [(g0, kT0), (g1, kV2), (g2, S3 2)] ∧ MsX w10 X3 D3 1 d3 [kNo] ∧ MsX w10 X3 D2 1 d2 [kVote]) := Lib.hid ⟨hs3, hm3, H3.out.2.keep hx3 hc3⟩
      clear hd hs3 hm3 hx3 hc3
      obtain ⟨bq5, E5, e5, hD5, hcl5, how5, hXb5, hXe5⟩ := H4.out.2.2.at_ (k := 0) rfl
      subst hD5
      have x5_8 : w10.cell? ⟨bq5, 8, none⟩ = some (.bool true) := hcl5 8 _ (by kernel_rfl)
      clear hcl5 how5 hXe5 hXb5
      obtain ⟨bq6, E6, e6, hD6, hcl6, how6, hXb6, hXe6⟩ := H4.out.2.1.at_ (k := 0) rfl
      subst hD6
      have x6_8 : w10.cell? ⟨bq6, 8, none⟩ = some (.bool false) := hcl6 8 _ (by kernel_rfl)
      clear hcl6 how6 hXe6 hXb6
      have z1 : w10.cell? ⟨w.heap.size, 1, none⟩ = some (.pointer (some ⟨g1, 0, none⟩)) := H4.out.1.2.1.cell 1
      have HVT : Hid (Calls Try.prog 11 #[.pointer (some ⟨g1, 0, none⟩)] w10 fun e w' => e = .returned (.int .i64 0) ∧ w' = w10) := by
        obtain ⟨A, c, hm⟩ := H4.out.1.1.get (i := 1) rfl
        have h1 := hm.c1
        have h3 := hm.c3
        rw [k_facts.2.1] at h1
        rw [k_facts.1] at h3
        exact Lib.hid (Vote_any w10 g1 3 0 h1 (by decide) h3)
      simp only [List.length_cons, List.length_nil, Nat.zero_add, Nat.reduceAdd]
      go_wp2_with (first | ((with_reducible refine HVT.out.mono ?_); rintro e w11 ⟨rfl, hw11⟩; rw [hw11]; clear hw11 w11) | fail)
      obtain ⟨bm7, E7, e7, hD7, hcl7, how7, hXb7, hXe7⟩ := H4.out.2.2.at_ (k := 0) rfl
      obtain rfl : bq5 = bm7 := by injection hD7 with h; injection h with h
      clear hD7
      have HMC7 : Hid (∀ W, Below w10.heap.size w10 W → W.cell? ⟨bq5, 0, none⟩ = some (.int .u8 (kVote.kind : Nat)) ∧ W.cell? ⟨bq5, 1, none⟩ = some (.int .i64 kVote.frm) ∧ W.cell? ⟨bq5, 2, none⟩ = some (.int .i64 kVote.to) ∧ W.cell? ⟨bq5, 3, none⟩ = some (.int .i64 kVote.term) ∧ W.cell? ⟨bq5, 4, none⟩ = some (.int .i64 kVote.index) ∧ W.cell? ⟨bq5, 5, none⟩ = some (.int .i64 kVote.logTerm) ∧ W.cell? ⟨bq5, 6, none⟩ = some (.slice E7 kVote.ents.length e7) ∧ W.cell? ⟨bq5, 7, none⟩ = some (.int .i64 kVote.commit) ∧ W.cell? ⟨bq5, 8, none⟩ = some (.bool kVote.ok)) := Lib.hid (fun W hW => by
        have hlt := H4.out.1.2.2.1 _ hXb7
        have hk : ∀ j v, (mcell E7 e7 kVote)[j]? = some v → W.cell? ⟨bq5, j, none⟩ = some v := fun j v hj => by
          have h := hcl7 j v hj
          rw [Nat.zero_mul, Nat.zero_add] at h
          exact (World.cell?_of_block (hW.block _ hlt)).trans h
        exact ⟨hk 0 _ rfl, hk 1 _ rfl, hk 2 _ rfl, hk 3 _ rfl, hk 4 _ rfl, hk 5 _ rfl, hk 6 _ rfl, hk 7 _ rfl, hk 8 _ rfl⟩)
      have HOW7 := Lib.hid (And.intro how7 hXe7)
      have HPT7 : Hid (∀ W, Below w10.heap.size w10 W → W.cell? ⟨w.heap.size, 0, none⟩ = some (.pointer (some ⟨g0, 0, none⟩))) := Lib.hid (fun W hW => (H4.out.1.2.1.below hW H4.out.1.2.1.lt).cell 0)
      clear hcl7 how7 hXb7 hXe7
      refine wp_region_plan (.q 0 (.q 1 (.q 2 (.q 3 (.q 4 (.a1 5 (.q 6 .fin))))))) 5 (fun W => Below w10.heap.size w10 W) (by kernel_rfl) rfl (by kernel_rfl) (Below.refl _ _).drew ?_
      refine wpPlan_q rfl rfl rfl ?_; intro K hK
      go_big_quiet_op
      first | go_big_quiet_on | (refine ⟨_, fun _ _ => rfl, ?_⟩; go_big_quiet_on)
      refine wpPlan_q rfl rfl rfl ?_; intro K hK
      refine ⟨(.pointer (some ⟨g0, 0, none⟩)), fun W hW => ?_, ?_⟩
      · have q0 := HPT7.out W hW
        unfold Oper.quietAt Oper.quietUpon
        simp [go_sem, q0]
      refine hK _ ?_
      clear hK K
      try simp only [Act.put, List.setIfInBounds_toArray, List.set_cons_succ, List.set_cons_zero]
      refine wpPlan_q rfl rfl rfl ?_; intro K hK
      go_big_quiet_op
      first | go_big_quiet_on | (refine ⟨_, fun _ _ => rfl, ?_⟩; go_big_quiet_on)
      refine wpPlan_q rfl rfl rfl ?_; intro K hK
      go_big_quiet_op
      first | go_big_quiet_on | (refine ⟨_, fun _ _ => rfl, ?_⟩; go_big_quiet_on)
      refine wpPlan_q rfl rfl rfl ?_; intro K hK
      refine ⟨(.agg (mcell E7 e7 kVote).toArray), fun W hW => ?_, ?_⟩
      · obtain ⟨q0, q1, q2, q3, q4, q5, q6, q7, q8⟩ := HMC7.out W hW
        unfold Oper.quietAt Oper.quietUpon
        simp [go_sem, q0, q1, q2, q3, q4, q5, q6, q7, q8, mcell]
      refine hK _ ?_
      clear hK K
      try simp only [Act.put, List.setIfInBounds_toArray, List.set_cons_succ, List.set_cons_zero]
      refine wpPlan_act false rfl rfl rfl ?_; intro K hK
      go_simp
      refine (((H4.out.1.below (Below.refl _ _).drew).1.handleX H4.out.1.2.2.1 (i := 0) rfl kT0_good kVote_ok (by have h := HOW7.out.1; exact h) HOW7.out.2)).mono ?_
      rw [k_app]
      intro e v7 hd
      obtain ⟨D7, d7, X7, rfl, hs7, hm7, hx7, hc7⟩ := (H4.out.1.below (Below.refl _ _).drew).did rfl hd
      have H5 : Hid (Stg w v7 X7 [(g0, kL0), (g1, kV2), (g2, S3 2)] ∧ MsX v7 X7 D7 2 d7 [kApp, kL0.send 2]) := Lib.hid ⟨hs7, hm7⟩
      clear hd hs7 hm7 hx7 hc7
      refine hK _ _ (fun h => by cases h) ?_
      clear hK K
      try simp only [Act.put, List.setIfInBounds_toArray, List.set_cons_succ, List.set_cons_zero]
      refine wpPlan_p rfl rfl rfl ?_; intro K hK
      go_big_quiet_op
      first | go_big_quiet_on | (refine ⟨_, fun _ _ => rfl, ?_⟩; go_big_quiet_on)
      refine wpPlan_fin ?_
      obtain ⟨bq8, E8, e8, hD8, hcl8, how8, hXb8, hXe8⟩ := H5.out.2.at_ (k := 0) rfl
      subst hD8
      have x8_6 : v7.cell? ⟨bq8, 6, none⟩ = some (.slice E8 1 e8) := hcl8 6 _ (by kernel_rfl)
      clear hcl8 how8 hXe8 hXb8
      have z2 : v7.cell? ⟨w.heap.size, 0, none⟩ = some (.pointer (some ⟨g0, 0, none⟩)) := H5.out.1.2.1.cell 0
      have HLD : Hid (Calls Try.prog 12 #[.pointer (some ⟨g0, 0, none⟩)] v7 fun e w' => e = .returned (.int .i64 0) ∧ w' = v7) := by
        obtain ⟨A, c, hm⟩ := H5.out.1.1.get (i := 0) rfl
        have h1 := hm.c1
        have h3 := hm.c6
        rw [k_facts.2.2.2.1] at h1
        rw [k_facts.2.2.1] at h3
        exact Lib.hid (Leader_any v7 g0 3 0 h1 (by decide) h3)
      simp only [List.length_cons, List.length_nil, Nat.zero_add, Nat.reduceAdd]
      go_wp2_with (first | ((with_reducible refine HLD.out.mono ?_); rintro e w11 ⟨rfl, hw11⟩; rw [hw11]; clear hw11 w11) | fail)
      obtain ⟨bm9, E9, e9, hD9, hcl9, how9, hXb9, hXe9⟩ := H5.out.2.at_ (k := 0) rfl
      obtain rfl : bq8 = bm9 := by injection hD9 with h; injection h with h
      clear hD9
      have HMC9 : Hid (∀ W, Below v7.heap.size v7 W → W.cell? ⟨bq8, 0, none⟩ = some (.int .u8 (kApp.kind : Nat)) ∧ W.cell? ⟨bq8, 1, none⟩ = some (.int .i64 kApp.frm) ∧ W.cell? ⟨bq8, 2, none⟩ = some (.int .i64 kApp.to) ∧ W.cell? ⟨bq8, 3, none⟩ = some (.int .i64 kApp.term) ∧ W.cell? ⟨bq8, 4, none⟩ = some (.int .i64 kApp.index) ∧ W.cell? ⟨bq8, 5, none⟩ = some (.int .i64 kApp.logTerm) ∧ W.cell? ⟨bq8, 6, none⟩ = some (.slice E9 kApp.ents.length e9) ∧ W.cell? ⟨bq8, 7, none⟩ = some (.int .i64 kApp.commit) ∧ W.cell? ⟨bq8, 8, none⟩ = some (.bool kApp.ok)) := Lib.hid (fun W hW => by
        have hlt := H5.out.1.2.2.1 _ hXb9
        have hk : ∀ j v, (mcell E9 e9 kApp)[j]? = some v → W.cell? ⟨bq8, j, none⟩ = some v := fun j v hj => by
          have h := hcl9 j v hj
          rw [Nat.zero_mul, Nat.zero_add] at h
          exact (World.cell?_of_block (hW.block _ hlt)).trans h
        exact ⟨hk 0 _ rfl, hk 1 _ rfl, hk 2 _ rfl, hk 3 _ rfl, hk 4 _ rfl, hk 5 _ rfl, hk 6 _ rfl, hk 7 _ rfl, hk 8 _ rfl⟩)
      have HOW9 := Lib.hid (And.intro how9 hXe9)
      have HPT9 : Hid (∀ W, Below v7.heap.size v7 W → W.cell? ⟨w.heap.size, 1, none⟩ = some (.pointer (some ⟨g1, 0, none⟩))) := Lib.hid (fun W hW => (H5.out.1.2.1.below hW H5.out.1.2.1.lt).cell 1)
      clear hcl9 how9 hXb9 hXe9
      refine wp_region_plan (.q 0 (.q 1 (.q 2 (.q 3 (.q 4 (.a1 5 (.q 6 .fin))))))) 5 (fun W => Below v7.heap.size v7 W) (by kernel_rfl) rfl (by kernel_rfl) (Below.refl _ _).drew ?_
      refine wpPlan_q rfl rfl rfl ?_; intro K hK
      go_big_quiet_op
      first | go_big_quiet_on | (refine ⟨_, fun _ _ => rfl, ?_⟩; go_big_quiet_on)
      refine wpPlan_q rfl rfl rfl ?_; intro K hK
      refine ⟨(.pointer (some ⟨g1, 0, none⟩)), fun W hW => ?_, ?_⟩
      · have q0 := HPT9.out W hW
        unfold Oper.quietAt Oper.quietUpon
        simp [go_sem, q0]
      refine hK _ ?_
      clear hK K
      try simp only [Act.put, List.setIfInBounds_toArray, List.set_cons_succ, List.set_cons_zero]
      refine wpPlan_q rfl rfl rfl ?_; intro K hK
      go_big_quiet_op
      first | go_big_quiet_on | (refine ⟨_, fun _ _ => rfl, ?_⟩; go_big_quiet_on)
      refine wpPlan_q rfl rfl rfl ?_; intro K hK
      go_big_quiet_op
      first | go_big_quiet_on | (refine ⟨_, fun _ _ => rfl, ?_⟩; go_big_quiet_on)
      refine wpPlan_q rfl rfl rfl ?_; intro K hK
      refine ⟨(.agg (mcell E9 e9 kApp).toArray), fun W hW => ?_, ?_⟩
      · obtain ⟨q0, q1, q2, q3, q4, q5, q6, q7, q8⟩ := HMC9.out W hW
        unfold Oper.quietAt Oper.quietUpon
        simp [go_sem, q0, q1, q2, q3, q4, q5, q6, q7, q8, mcell]
      refine hK _ ?_
      clear hK K
      try simp only [Act.put, List.setIfInBounds_toArray, List.set_cons_succ, List.set_cons_zero]
      refine wpPlan_act false rfl rfl rfl ?_; intro K hK
      go_simp
      refine (((H5.out.1.below (Below.refl _ _).drew).1.handleX H5.out.1.2.2.1 (i := 1) rfl kV2_good kApp_ok (by have h := HOW9.out.1; exact h) HOW9.out.2)).mono ?_
      rw [k_back]
      intro e v9 hd
      obtain ⟨D9, d9, X9, rfl, hs9, hm9, hx9, hc9⟩ := (H5.out.1.below (Below.refl _ _).drew).did rfl hd
      have H6 : Hid (Stg w v9 X9 [(g0, kL0), (g1, kA1), (g2, S3 2)] ∧ MsX v9 X9 D9 1 d9 [kBack]) := Lib.hid ⟨hs9, hm9⟩
      clear hd hs9 hm9 hx9 hc9
      refine hK _ _ (fun h => by cases h) ?_
      clear hK K
      try simp only [Act.put, List.setIfInBounds_toArray, List.set_cons_succ, List.set_cons_zero]
      refine wpPlan_p rfl rfl rfl ?_; intro K hK
      go_big_quiet_op
      first | go_big_quiet_on | (refine ⟨_, fun _ _ => rfl, ?_⟩; go_big_quiet_on)
      refine wpPlan_fin ?_
      simp only [List.length_cons, List.length_nil, Nat.zero_add, Nat.reduceAdd]
      go_wp2_with fail
      obtain ⟨bm10, E10, e10, hD10, hcl10, how10, hXb10, hXe10⟩ := H6.out.2.at_ (k := 0) rfl
      subst hD10
      have HFM : Hid (∀ W, Below v9.heap.size v9 W → (fun W => Hid (W.cell? ⟨w.heap.size, 0, none⟩ = some (.pointer (some ⟨g0, 0, none⟩)) ∧ ∀ j v, (mcell E10 e10 kBack)[j]? = some v → W.cell? ⟨bm10, j, none⟩ = some v)) W) := Lib.hid (fun W hW => ⟨(H6.out.1.2.1.below hW H6.out.1.2.1.lt).cell 0, fun j v hj => by
        have h := hcl10 j v hj
        rw [Nat.zero_mul, Nat.zero_add] at h
        exact (World.cell?_of_block (hW.block _ (H6.out.1.2.2.1 _ hXb10))).trans h⟩)
      have HOW10 := Lib.hid (And.intro how10 (And.intro hXe10 hXb10))
      clear hcl10 how10 hXe10 hXb10
      refine wp_region_plan (.q 0 (.q 1 (.q 2 (.q 3 (.q 4 (.q 5 (.q 6 (.q 7 (.q 8 (.q 9 (.q 10 (.q 11 (.q 12 (.q 13 (.q 14 (.q 15 (.q 16 (.q 17 (.q 18 (.q 19 (.q 20 (.q 21 (.q 22 (.a1 23 (.q 24 (.q 25 (.q 26 (.q 27 (.q 28 (.q 29 (.a1 30 (.q 31 (.q 32 .fin))))))))))))))))))))))))))))))))) 33 (fun W => Hid (W.cell? ⟨w.heap.size, 0, none⟩ = some (.pointer (some ⟨g0, 0, none⟩)) ∧ ∀ j v, (mcell E10 e10 kBack)[j]? = some v → W.cell? ⟨bm10, j, none⟩ = some v)) (by kernel_rfl) rfl (by kernel_rfl) (HFM.out v9.drew (Below.refl _ _).drew) ?_
      refine wpPlan_q rfl rfl rfl ?_; intro K hK
      go_big_quiet_op
      first | go_big_quiet_on | (refine ⟨_, fun _ _ => rfl, ?_⟩; go_big_quiet_on)
      refine wpPlan_q rfl rfl rfl ?_; intro K hK
      go_big_quiet_op
      first | go_big_quiet_on | (refine ⟨_, fun _ _ => rfl, ?_⟩; go_big_quiet_on)
      refine wpPlan_q rfl rfl rfl ?_; intro K hK
      go_big_quiet_op
      first | go_big_quiet_on | (refine ⟨_, fun _ _ => rfl, ?_⟩; go_big_quiet_on)
      refine wpPlan_q rfl rfl rfl ?_; intro K hK
      go_big_quiet_op
      first | go_big_quiet_on | (refine ⟨_, fun _ _ => rfl, ?_⟩; go_big_quiet_on)
      refine wpPlan_q rfl rfl rfl ?_; intro K hK
      go_big_quiet_op
      first | go_big_quiet_on | (refine ⟨_, fun _ _ => rfl, ?_⟩; go_big_quiet_on)
      refine wpPlan_q rfl rfl rfl ?_; intro K hK
      go_big_quiet_op
      first | go_big_quiet_on | (refine ⟨_, fun _ _ => rfl, ?_⟩; go_big_quiet_on)
      refine wpPlan_q rfl rfl rfl ?_; intro K hK
      go_big_quiet_op
      first | go_big_quiet_on | (refine ⟨_, fun _ _ => rfl, ?_⟩; go_big_quiet_on)
      refine wpPlan_q rfl rfl rfl ?_; intro K hK
      refine ⟨(.bool true), fun W hW => ?_, ?_⟩
      · have q0 : W.cell? ⟨bm10, 8, none⟩ = some (.bool true) := hW.out.2 8 _ (by kernel_rfl)
        unfold Oper.quietAt Oper.quietUpon
        simp [go_sem, q0]
      refine hK _ ?_
      clear hK K
      try simp only [Act.put, List.setIfInBounds_toArray, List.set_cons_succ, List.set_cons_zero]
      refine wpPlan_q rfl rfl rfl ?_; intro K hK
      go_big_quiet_op
      first | go_big_quiet_on | (refine ⟨_, fun _ _ => rfl, ?_⟩; go_big_quiet_on)
      refine wpPlan_q rfl rfl rfl ?_; intro K hK
      go_big_quiet_op
      first | go_big_quiet_on | (refine ⟨_, fun _ _ => rfl, ?_⟩; go_big_quiet_on)
      refine wpPlan_q rfl rfl rfl ?_; intro K hK
      go_big_quiet_op
      first | go_big_quiet_on | (refine ⟨_, fun _ _ => rfl, ?_⟩; go_big_quiet_on)
      refine wpPlan_q rfl rfl rfl ?_; intro K hK
      go_big_quiet_op
      first | go_big_quiet_on | (refine ⟨_, fun _ _ => rfl, ?_⟩; go_big_quiet_on)
      refine wpPlan_q rfl rfl rfl ?_; intro K hK
      go_big_quiet_op
      first | go_big_quiet_on | (refine ⟨_, fun _ _ => rfl, ?_⟩; go_big_quiet_on)
      refine wpPlan_q rfl rfl rfl ?_; intro K hK
      go_big_quiet_op
      first | go_big_quiet_on | (refine ⟨_, fun _ _ => rfl, ?_⟩; go_big_quiet_on)
      refine wpPlan_q rfl rfl rfl ?_; intro K hK
      refine ⟨(.int .i64 1), fun W hW => ?_, ?_⟩
      · have q0 : W.cell? ⟨bm10, 4, none⟩ = some (.int .i64 1) := hW.out.2 4 _ (by kernel_rfl)
        unfold Oper.quietAt Oper.quietUpon
        simp [go_sem, q0]
      refine hK _ ?_
      clear hK K
      try simp only [Act.put, List.setIfInBounds_toArray, List.set_cons_succ, List.set_cons_zero]
      refine wpPlan_q rfl rfl rfl ?_; intro K hK
      go_big_quiet_op
      first | go_big_quiet_on | (refine ⟨_, fun _ _ => rfl, ?_⟩; go_big_quiet_on)
      refine wpPlan_q rfl rfl rfl ?_; intro K hK
      go_big_quiet_op
      first | go_big_quiet_on | (refine ⟨_, fun _ _ => rfl, ?_⟩; go_big_quiet_on)
      refine wpPlan_q rfl rfl rfl ?_; intro K hK
      go_big_quiet_op
      first | go_big_quiet_on | (refine ⟨_, fun _ _ => rfl, ?_⟩; go_big_quiet_on)
      refine wpPlan_q rfl rfl rfl ?_; intro K hK
      go_big_quiet_op
      first | go_big_quiet_on | (refine ⟨_, fun _ _ => rfl, ?_⟩; go_big_quiet_on)
      refine wpPlan_q rfl rfl rfl ?_; intro K hK
      refine ⟨(.pointer (some ⟨g0, 0, none⟩)), fun W hW => ?_, ?_⟩
      · have q0 := hW.out.1
        unfold Oper.quietAt Oper.quietUpon
        simp [go_sem, q0]
      refine hK _ ?_
      clear hK K
      try simp only [Act.put, List.setIfInBounds_toArray, List.set_cons_succ, List.set_cons_zero]
      refine wpPlan_q rfl rfl rfl ?_; intro K hK
      go_big_quiet_op
      first | go_big_quiet_on | (refine ⟨_, fun _ _ => rfl, ?_⟩; go_big_quiet_on)
      refine wpPlan_q rfl rfl rfl ?_; intro K hK
      go_big_quiet_op
      first | go_big_quiet_on | (refine ⟨_, fun _ _ => rfl, ?_⟩; go_big_quiet_on)
      refine wpPlan_q rfl rfl rfl ?_; intro K hK
      refine ⟨(.agg (mcell E10 e10 kBack).toArray), fun W hW => ?_, ?_⟩
      · have q0 := hW.out.2 0 _ rfl
        have q1 := hW.out.2 1 _ rfl
        have q2 := hW.out.2 2 _ rfl
        have q3 := hW.out.2 3 _ rfl
        have q4 := hW.out.2 4 _ rfl
        have q5 := hW.out.2 5 _ rfl
        have q6 := hW.out.2 6 _ rfl
        have q7 := hW.out.2 7 _ rfl
        have q8 := hW.out.2 8 _ rfl
        unfold Oper.quietAt Oper.quietUpon
        simp [go_sem, q0, q1, q2, q3, q4, q5, q6, q7, q8, mcell]
      refine hK _ ?_
      clear hK K
      try simp only [Act.put, List.setIfInBounds_toArray, List.set_cons_succ, List.set_cons_zero]
      refine wpPlan_act true rfl rfl rfl ?_; intro K hK
      go_simp
      refine (((H6.out.1.below (Below.refl _ _).drew).1.handleX H6.out.1.2.2.1 (i := 0) rfl kL0_good kBack_ok HOW10.out.1 HOW10.out.2.1)).mono ?_
      rw [k_none]
      intro e v11 hd
      obtain ⟨D11, d11, X11, rfl, hs11, hm11, hx11, hc11⟩ := (H6.out.1.below (Below.refl _ _).drew).did rfl hd
      have H7 : Hid (Stg w v11 X11 [(g0, kL1), (g1, kA1), (g2, S3 2)]) := Lib.hid hs11
      have HF11 : Hid ((fun W => Hid (W.cell? ⟨w.heap.size, 0, none⟩ = some (.pointer (some ⟨g0, 0, none⟩)) ∧ ∀ j v, (mcell E10 e10 kBack)[j]? = some v → W.cell? ⟨bm10, j, none⟩ = some v)) v11) := Lib.hid ⟨hs11.2.1.cell 0, fun j v hj => (World.cell?_of_block (hc11.block _ (H6.out.1.2.2.1 _ HOW10.out.2.2) (fun hn => hn HOW10.out.2.2))).trans ((HFM.out _ (Below.refl _ _).drew).out.2 j v hj)⟩
      clear hd hs11 hm11 hx11 hc11
      simp only [List.length_nil]
      refine hK _ _ (fun _ => HF11.out) ?_
      clear hK K
      try simp only [Act.put, List.setIfInBounds_toArray, List.set_cons_succ, List.set_cons_zero]
      refine wpPlan_q rfl rfl rfl ?_; intro K hK
      go_big_quiet_op
      first | go_big_quiet_on | (refine ⟨_, fun _ _ => rfl, ?_⟩; go_big_quiet_on)
      refine wpPlan_q rfl rfl rfl ?_; intro K hK
      go_big_quiet_op
      first | go_big_quiet_on | (refine ⟨_, fun _ _ => rfl, ?_⟩; go_big_quiet_on)
      refine wpPlan_q rfl rfl rfl ?_; intro K hK
      go_big_quiet_op
      first | go_big_quiet_on | (refine ⟨_, fun _ _ => rfl, ?_⟩; go_big_quiet_on)
      refine wpPlan_q rfl rfl rfl ?_; intro K hK
      go_big_quiet_op
      first | go_big_quiet_on | (refine ⟨_, fun _ _ => rfl, ?_⟩; go_big_quiet_on)
      refine wpPlan_q rfl rfl rfl ?_; intro K hK
      go_big_quiet_op
      first | go_big_quiet_on | (refine ⟨_, fun _ _ => rfl, ?_⟩; go_big_quiet_on)
      refine wpPlan_q rfl rfl rfl ?_; intro K hK
      refine ⟨(.pointer (some ⟨g0, 0, none⟩)), fun W hW => ?_, ?_⟩
      · have q0 := hW.out.1
        unfold Oper.quietAt Oper.quietUpon
        simp [go_sem, q0]
      refine hK _ ?_
      clear hK K
      try simp only [Act.put, List.setIfInBounds_toArray, List.set_cons_succ, List.set_cons_zero]
      refine wpPlan_act true rfl rfl rfl ?_; intro K hK
      have HCM : Hid (Calls Try.prog 13 #[.pointer (some ⟨g0, 0, none⟩)] v11 fun e w' => e = .returned (.int .i64 1) ∧ w' = v11) := by
        obtain ⟨A, c, hm⟩ := H7.out.1.get (i := 0) rfl
        have h1 := hm.c1
        have h3 := hm.c7
        rw [k_facts.2.2.2.2.2.1] at h1
        rw [k_facts.2.2.2.2.1] at h3
        exact Lib.hid (Commit_any v11 g0 3 1 h1 (by decide) h3)
      go_simp
      refine HCM.out.mono ?_
      rintro e v12 ⟨rfl, hv12⟩
      rw [hv12]
      clear hv12 v12
      refine hK _ _ (fun _ => HF11.out) ?_
      clear hK K
      try simp only [Act.put, List.setIfInBounds_toArray, List.set_cons_succ, List.set_cons_zero]
      refine wpPlan_q rfl rfl rfl ?_; intro K hK
      go_big_quiet_op
      first | go_big_quiet_on | (refine ⟨_, fun _ _ => rfl, ?_⟩; go_big_quiet_on)
      refine wpPlan_q rfl rfl rfl ?_; intro K hK
      go_big_quiet_op
      first | go_big_quiet_on | (refine ⟨_, fun _ _ => rfl, ?_⟩; go_big_quiet_on)
      refine wpPlan_fin ?_
      have u0_ : v11.cell? ⟨w.heap.size, 0, none⟩ = some (.pointer (some ⟨g0, 0, none⟩)) := H7.out.2.1.cell 0
      go_wp2_with fail
      refine (H7.out.1.propose H7.out.2.2.1 (i := 0) rfl kL1_good ⟨#[120]⟩).mono ?_
      rw [k_two]
      rintro e v13 ⟨rfl, hs13, hc13⟩
      have H8 : Hid (Stg w v13 X11 [(g0, kL2), (g1, kA1), (g2, S3 2)]) := Lib.hid (H7.out.by_ (i := 0) rfl (fun _ h => h) (fun b hb => Nat.lt_of_lt_of_le (H7.out.2.2.1 b hb) hc13.size) hs13 hc13)
      clear hs13 hc13 u0_
      have u0_ : v13.cell? ⟨w.heap.size, 0, none⟩ = some (.pointer (some ⟨g0, 0, none⟩)) := H8.out.2.1.cell 0
      go_wp2_with fail
      refine (H8.out.1.tick H8.out.2.2.1 (i := 0) rfl kL2_good).mono ?_
      rw [k_next]
      intro e v14 hd
      obtain ⟨D14, d14, X14, rfl, hs14, hm14, hx14, hc14⟩ := H8.out.did rfl hd
      have H9 : Hid (Stg w v14 X14 [(g0, kL3), (g1, kA1), (g2, S3 2)] ∧ MsX v14 X14 D14 2 d14 [kL2.send 1, kL2.send 2]) := Lib.hid ⟨hs14, hm14⟩
      clear hd hs14 hm14 hx14 hc14 u0_
      have u0_ : v14.cell? ⟨w.heap.size, 2, none⟩ = some (.pointer (some ⟨g2, 0, none⟩)) := H9.out.1.2.1.cell 2
      simp only [List.length_cons, List.length_nil, Nat.zero_add, Nat.reduceAdd]
      go_wp2_with fail
      refine (H9.out.1.1.propose H9.out.1.2.2.1 (i := 2) rfl (S3_good (by decide)) ⟨#[121]⟩).mono ?_
      rw [k_y]
      rintro e v15 ⟨rfl, hs15, hc15⟩
      have H10 : Hid (Below w.heap.size w v15 ∧ MsX v15 X14 D14 2 d14 [kL2.send 1, kL2.send 2]) := Lib.hid ⟨(H9.out.1.by_ (i := 2) rfl (fun _ h => h) (fun b hb => Nat.lt_of_lt_of_le (H9.out.1.2.2.1 b hb) hc15.size) hs15 hc15).2.2.2.2, H9.out.2.keep (fun _ h => h) hc15⟩
      clear hs15 hc15 u0_
      go_wp2_with fail
      refine (new_any 3 3 0 (-1) [] none 0 v15 (RdE.nil v15) (by decide) (fun _ => rfl)).mono ?_
      intro e v16 hp
      unfold NewPost at hp
      rw [if_pos (by omega)] at hp
      obtain ⟨rfl, hb16⟩ := hp
      go_wp2_with fail
      refine (new_any 0 8 0 (-1) [] none 0 v16 (RdE.nil v16) (by decide) (fun _ => rfl)).mono ?_
      intro e v17 hp
      unfold NewPost at hp
      rw [if_pos (by omega)] at hp
      obtain ⟨rfl, hb17⟩ := hp
      have H11 : Hid (Below v15.heap.size v15 v17) := Lib.hid (hb16.trans (hb17.mono hb16.size))
      clear hb16 hb17
      go_wp2_with fail
      have hrd2 : RdE (v17.alloc (.cells #[.int .i64 2, .string ⟨#[]⟩] 39)) (some ⟨v17.heap.size, 0, none⟩) [⟨2, ⟨#[]⟩⟩] := by
        refine .inr ⟨v17.heap.size, 0, rfl, by simp, fun i x hx j v hv => ?_⟩
        have hi : i = 0 := by
          have := (List.getElem?_eq_some_iff.1 hx).1
          simpa using this
        subst hi
        have hx := Option.some.inj hx
        subst hx
        have h := (Blk.new v17 39 #[.int .i64 2, .string ⟨#[]⟩]).cell j
        rw [Nat.zero_mul, Nat.zero_add]
        try rw [Nat.zero_add]
        rw [h]
        simpa [ecell] using hv
      refine (new_any 0 1 1 (-1) [⟨2, ⟨#[]⟩⟩] (some ⟨v17.heap.size, 0, none⟩) 1 _ hrd2 (by decide) (fun h => by cases h)).mono ?_
      intro e v18 hp
      unfold NewPost at hp
      rw [if_neg (by omega), if_pos (by rfl)] at hp
      obtain ⟨rfl, hb18⟩ := hp
      have H12 : Hid (Below v15.heap.size v15 v18) := Lib.hid ((H11.out.alloc H11.out.size _).trans (hb18.mono (H11.out.alloc H11.out.size _).size))
      clear hb18 hrd2
      obtain ⟨i0, hi0, hz0, hz1, hz2⟩ := info_parts Try.info39
      obtain ⟨w19, hms, hown, hgr⟩ := run_makeSlice_full (P := Try.prog) v18 v15.heap.size 27 39 i0 (.agg #[.int .i64 0, .string ⟨#[]⟩]) 2 Try.underlying27 hi0 hz0 hz1 .i64 .i64 4096 (by omega) (by rw [hz2]; omega) (by unfold maxLen; omega) H12.out.size
      have hms' : (Instr.makeSlice 27 (.int .i64 4096) (.int .i64 4096)).run Try.prog v18 = .ok (.slice (some ⟨v18.heap.size, 0, none⟩) 4096 4096) w19 := hms
      have H13 : Hid (w19.ownsRow v15.heap.size 39 2 (.slice (some ⟨v18.heap.size, 0, none⟩) 4096 4096) 4096 (rowOf ecell (List.replicate 0 eOne ++ List.replicate (4096 - 0) eNil)) ∧ Below v15.heap.size v15 w19) := Lib.hid ⟨by
        have h := hown
        rw [show (Value.agg #[.int .i64 0, .string ⟨#[]⟩]).cells = #[.int .i64 0, .string ⟨#[]⟩] from rfl, made_ents] at h
        exact h, H12.out.grown hgr H12.out.size (fun r hr => by cases hr)⟩
      clear hms hown hgr hi0 hz0 hz1 hz2
      have H18 : Hid (v15.heap.size ≤ v18.heap.size) := Lib.hid H12.out.size
      go_wp2_with fail
      clear hms'
      go_loopw [23] (fun s23 wl => ∃ k : Nat, s23 = .int .i64 (k : Nat) ∧ k ≤ 4096 ∧ wl.ownsRow v15.heap.size 39 2 (.slice (some ⟨v18.heap.size, 0, none⟩) 4096 4096) 4096 (rowOf ecell (List.replicate k eOne ++ List.replicate (4096 - k) eNil)) ∧ Below v15.heap.size v15 wl) (fun s23 _ => 4096 - (intOf s23).toNat)
      case atStart => exact ⟨0, rfl, by omega, H13.out.1, H13.out.2⟩
      case round =>
        obtain ⟨n, rfl, hn, hown, hb⟩ := hrel
        have HL := Lib.hid (And.intro hown hb)
        clear hown hb
        by_cases hn4 : n < 4096
        · have d2 : decide ((n : Int) < 4096) = true := decide_eq_true (by omega)
          have hx : (List.replicate n eOne ++ List.replicate (4096 - n) eNil)[n]? = some eNil := by
            rw [List.getElem?_append_right (by rw [List.length_replicate]; exact Nat.le_refl _), List.length_replicate, Nat.sub_self, List.getElem?_replicate, if_pos (by omega)]
          have q1 : wr.cell? ⟨v18.heap.size, n * 2, none⟩ = some (.int .i64 0) := by
            rw [HL.out.1.cellAt (n * 2) (by omega)]
            have h := rowOf_get ecell_len _ n _ 0 (.int .i64 0) hx rfl
            exact h
          have q2 : wr.frozen? ⟨v18.heap.size, n * 2, none⟩ = false := HL.out.1.frozenAt _
          have k0 : (0 : Int) ≤ (n : Int) := by omega
          have k3 : (n : Int) < 4096 := by omega
          have HX := Lib.hid hx
          clear hx
          go_wp2_with fail
          go_roundw
          case rel =>
            have h := HL.out.1.stored (n * 2) (.int .i64 1)
            rw [row_set _ n eNil 1 HX.out, show (⟨1, eNil.data⟩ : Ent) = ⟨1, ⟨#[]⟩⟩ from rfl, rep_set 4096 n hn4] at h
            exact ⟨n + 1, by go_num, by omega, h.1, HL.out.2.grown h.2 HL.out.2.size (fun r hr => by cases hr; exact H18.out)⟩
          case measure => simp [intOf]; omega
        · have d2 : decide ((n : Int) < 4096) = false := decide_eq_false (by omega)
          obtain rfl : n = 4096 := by omega
          go_wp2_with fail
          have hrd3 : RdE wr (some ⟨v18.heap.size, 0, none⟩) (List.replicate 4096 eOne) := by
            have h := HL.out.1
            rw [show List.replicate 4096 eOne ++ List.replicate (4096 - 4096) eNil = List.replicate 4096 eOne from List.append_nil _] at h
            exact .of_own ecell_len h List.length_replicate.symm
          have hnew := new_any 0 1 1152921504606846975 0 (List.replicate 4096 eOne) (some ⟨v18.heap.size, 0, none⟩) 4096 wr hrd3 (by rw [List.length_replicate]; omega) (fun h => by cases h)
          rw [List.length_replicate] at hnew
          refine hnew.mono ?_
          intro e w20 hp
          unfold NewPost at hp
          rw [if_neg (by omega), if_neg (by rw [kOne_may]; decide)] at hp
          obtain ⟨⟨g, A, c, rfl, hg, hA, hm⟩, hb⟩ := hp
          have H20 : Hid (SvM w20 g kOne A c ∧ v15.heap.size ≤ g ∧ (∀ a, A = some a → v15.heap.size ≤ a.block) ∧ Below v15.heap.size v15 w20) := Lib.hid ⟨hm, Nat.le_trans HL.out.2.size hg, fun a ha => Nat.le_trans HL.out.2.size (hA a ha), HL.out.2.trans (hb.mono HL.out.2.size)⟩
          clear hrd3 hnew hg hA hm hb
          obtain ⟨b1, E1, e1, hD1, hcl1, how1, hXb1, hXe1⟩ := H10.out.2.at_ (k := 0) rfl
          obtain ⟨b2, E2, e2', hD2, hcl2, how2, hXb2, hXe2⟩ := H10.out.2.at_ (k := 1) rfl
          subst hD1
          obtain rfl : b1 = b2 := by injection hD2 with h; injection h with h
          have t1 : v15.cell? ⟨b1, 4, none⟩ = some (.int .i64 1) := hcl1 4 _ (by kernel_rfl)
          have t2 : v15.cell? ⟨b1, 15, none⟩ = some (.slice E2 2 e2') := hcl2 6 _ (by kernel_rfl)
          have hb1 : b1 < v15.heap.size := World.block_lt_of_cell? v15 _ t1
          have r1 : w20.cell? ⟨b1, 4, none⟩ = some (.int .i64 1) := (World.cell?_of_block (H20.out.2.2.2.block _ hb1)).trans t1
          have r2 : w20.cell? ⟨b1, 15, none⟩ = some (.slice E2 2 e2') := (World.cell?_of_block (H20.out.2.2.2.block _ hb1)).trans t2
          clear hcl1 how1 hXb1 hXe1 hcl2 how2 hXb2 hXe2 hD2 t1 t2
          have HTK := Lib.hid (tick_any kOne g A c w20 H20.out.1 kOne_good.toOk)
          rw [kOne_tick] at HTK
          go_wp2_with fail
          refine HTK.out.mono ?_
          rintro e w21 ⟨A2, c2, B, D, d, hm2, hc2, ht2, _, _, rfl, _⟩
          have H21 : Hid (SvM w21 g kTop A2 c2 ∧ (∀ a, A2 = some a → v15.heap.size ≤ a.block) ∧ Below v15.heap.size v15 w21) := Lib.hid ⟨hm2, fun a ha => by
            rcases ht2 a ha with ⟨a0, h0, h1⟩ | h1
            · rw [h1]; exact H20.out.2.2.1 a0 h0
            · exact Nat.le_trans H20.out.2.2.2.size h1, Chg.below H20.out.2.2.2 hc2 H20.out.2.2.2.size (fun b hb => by
            rcases hb with rfl | ⟨a, ha, rfl⟩
            · exact H20.out.2.1
            · exact H20.out.2.2.1 a ha)⟩
          clear hm2 hc2 ht2 HTK
          go_wp2_with fail
          refine (propose_any kTop ⟨#[122]⟩ g A2 c2 w21 H21.out.1 kTop_good.toOk).mono ?_
          rw [kTop_propose]
          rintro e w22 ⟨rfl, A3, c3, hm3, hc3, ht3⟩
          have H22 : Hid (SvM w22 g kTop A3 c3 ∧ Below v15.heap.size v15 w22) := Lib.hid ⟨hm3, Chg.below H21.out.2.2 hc3 H21.out.2.2.size (fun b hb => by
            rcases hb with rfl | ⟨a, ha, rfl⟩
            · exact H20.out.2.1
            · exact H21.out.2.1 a ha)⟩
          clear hm3 hc3 ht3
          go_wp2_with fail
          refine (new_any 0 2 1152921504606846976 (-1) [] none 0 w22 (RdE.nil w22) (by decide) (fun _ => rfl)).mono ?_
          intro e w23 hp
          unfold NewPost at hp
          rw [if_neg (by omega), if_neg (by show ¬ (true = false); decide)] at hp
          obtain ⟨⟨g3, A4, c4, rfl, hg, hA, hm⟩, hb⟩ := hp
          have H23 : Hid (SvM w23 g3 kTwo A4 c4 ∧ SvM w23 g kTop A3 c3 ∧ v15.heap.size ≤ g3 ∧ (∀ a, A4 = some a → v15.heap.size ≤ a.block) ∧ Below v15.heap.size v15 w23) := Lib.hid ⟨hm, H22.out.1.below hb, Nat.le_trans H22.out.2.size hg, fun a ha => Nat.le_trans H22.out.2.size (hA a ha), H22.out.2.trans (hb.mono H22.out.2.size)⟩
          clear hg hA hm hb
          go_wp2_with fail
          refine (awake_any w23).mono ?_
          rintro e w24 ⟨rfl, hb24⟩
          have H24 : Hid (SvM w24 g3 kTwo A4 c4 ∧ SvM w24 g kTop A3 c3 ∧ Below v15.heap.size v15 w24) := Lib.hid ⟨H23.out.1.below hb24, H23.out.2.1.below hb24, H23.out.2.2.2.2.trans (hb24.mono H23.out.2.2.2.2.size)⟩
          clear hb24
          have HCM := Lib.hid (Commit_any w24 g 1 0 (by have h := H24.out.2.1.c1; exact h) (by decide) (by have h := H24.out.2.1.c7; rw [kTop_commit] at h; exact h))
          have HRL := Lib.hid (Role_any w24 g 1 2 (by have h := H24.out.2.1.c1; exact h) (by decide) (by have h := H24.out.2.1.c5; exact h))
          go_wp2_with (first | ((with_reducible refine HCM.out.mono ?_); rintro e w25 ⟨rfl, hw25⟩; rw [hw25]; clear hw25 w25) | ((with_reducible refine HRL.out.mono ?_); rintro e w25 ⟨rfl, hw25⟩; rw [hw25]; clear hw25 w25) | fail)
          have HTK := Lib.hid (tick_any kTwo g3 A4 c4 w24 H24.out.1 kTwo_good.toOk)
          rw [kTwo_tick] at HTK
          refine HTK.out.mono ?_
          rintro e w26 ⟨A5, c5, B5, D5, d5, hm5, hc5, ht5, _, _, rfl, _⟩
          have H26 : Hid (SvM w26 g3 kTwo A5 c5 ∧ Below v15.heap.size v15 w26) := Lib.hid ⟨hm5, Chg.below H24.out.2.2 hc5 H24.out.2.2.size (fun b hb => by
            rcases hb with rfl | ⟨a, ha, rfl⟩
            · exact H23.out.2.2.1
            · exact H23.out.2.2.2.1 a ha)⟩
          clear hm5 hc5 ht5 HTK
          have HRL2 := Lib.hid (Role_any w26 g3 2 0 (by have h := H26.out.1.c1; exact h) (by decide) (by have h := H26.out.1.c5; exact h))
          go_wp2_with (first | ((with_reducible refine HRL2.out.mono ?_); rintro e w25 ⟨rfl, hw25⟩; rw [hw25]; clear hw25 w25) | fail)
          go_ret
          exact ⟨rfl, H10.out.1.trans (H26.out.2.mono H10.out.1.size)⟩
end Go.Proofs.Ytjodglepaeomiaa
