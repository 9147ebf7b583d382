/- Contract of the document's Tick. -/
import Derived.Deep.MidRow
import Derived.Test.YtjodglepaeomiaaRld
namespace Go.Proofs.Ytjodglepaeomiaa
open Go.RowKit

theorem RvM.setV {w : World} {g c k : Nat} {S : Sv} {A : Option Addr} {V : List Bool} {P : List (Nat × Nat)} (h : RvM w g S A c V P) (b : Bool) (hk : k < 7) :
    RvM (w.setCell ⟨g, 8 + k, none⟩ (.bool b)) g S A c (V.set k b) P ∧ Chg (fun b => b = g) w (w.setCell ⟨g, 8 + k, none⟩ (.bool b)) :=
  h.set (8 + k) (.bool b) rfl (by rw [List.length_set]; exact h.vl) h.pl (rvCells_v b hk h.vl)
theorem RvM.clearV {w : World} {g c : Nat} {S : Sv} {A : Option Addr} {V : List Bool} {P : List (Nat × Nat)} (h : RvM w g S A c V P) :
    RvM (w.setCells g 8 [.bool false, .bool false, .bool false, .bool false, .bool false, .bool false, .bool false]) g S A c (List.replicate 7 false) P ∧ Chg (fun b => b = g) w (w.setCells g 8 [.bool false, .bool false, .bool false, .bool false, .bool false, .bool false, .bool false]) := by
  have h0 := h.setV (k := 0) false (by decide)
  have h1 := h0.1.setV (k := 1) false (by decide)
  have h2 := h1.1.setV (k := 2) false (by decide)
  have h3 := h2.1.setV (k := 3) false (by decide)
  have h4 := h3.1.setV (k := 4) false (by decide)
  have h5 := h4.1.setV (k := 5) false (by decide)
  have h6 := h5.1.setV (k := 6) false (by decide)
  obtain ⟨a0, a1, a2, a3, a4, a5, a6, rfl⟩ : ∃ a0 a1 a2 a3 a4 a5 a6, V = [a0, a1, a2, a3, a4, a5, a6] := by
    match V, h.vl with
    | [a0, a1, a2, a3, a4, a5, a6], _ => exact ⟨a0, a1, a2, a3, a4, a5, a6, rfl⟩
  exact ⟨h6.1, h0.2.trans (h1.2.trans (h2.2.trans (h3.2.trans (h4.2.trans (h5.2.trans h6.2)))))⟩
theorem seven_one : (#[.bool false, .bool false, .bool false, .bool false, .bool false, .bool false, .bool false] : Array Value).all (·.oneCell') = true := by kernel_rfl
theorem bit_pow (k i : Nat) : (2 ^ k).testBit i = decide (k = i) := Nat.testBit_two_pow
theorem OutR.after {w w1 w' : World} {g : Nat} {A A1 : Option Addr} {S' : Sv} {ms : List Mg} {e : Ending} (h : Chg (SvT g A) w w1) (h0 : ∀ a, A1 = some a → (∃ a0, A = some a0 ∧ a.block = a0.block) ∨ w.heap.size ≤ a.block) (k : OutR w1 g A1 S' ms e w') : OutR w g A S' ms e w' := by
  obtain ⟨A', c', V', P', B, D, d, h1, hr, h2, h3, h4, h5, rfl, h6⟩ := k
  obtain ⟨A2, c2, k1, k2, k3⟩ := KeepsR.trans h h0 ⟨A', c', h1, h2, h3⟩
  refine ⟨A', c', V', P', B, D, d, h1, hr, k2, fun a ha => ?_, Nat.le_trans h.size h4, h5, rfl, h6⟩
  rcases h3 a ha with ⟨a1, e1, e2⟩ | h7
  · rcases h0 a1 e1 with ⟨a2, e3, e4⟩ | h8
    · exact .inl ⟨a2, e3, e2.trans e4⟩
    · exact .inr (by omega)
  · exact .inr (Nat.le_trans h.size h7)
set_option maxRecDepth 100000 in
set_option maxHeartbeats 16000000 in
theorem tickR_any (S : Sv) (g : Nat) (A : Option Addr) (c : Nat) (V : List Bool) (P : List (Nat × Nat)) (w : World) (hS : RvM w g S A c V P) (hr : Rel S V P) (hok : S.Good) :
    Calls Try.prog 59 #[.pointer (some ⟨g, 0, none⟩)] w (OutR w g A S.tick.1 S.tick.2) := by
  have HS := Lib.hid hS
  have HK := Lib.hid (And.intro hok hr)
  have hgl := hS.lt
  have c0 := hS.c0
  have c1 := hS.c1
  have c2 := hS.c2
  have c3 := hS.c3
  have c5 := hS.c5
  clear hS hok hr
  go_enter Try.func59, Try.ntmps59
  by_cases hrl : S.role = 2
  · have b1 : ((S.role : Int) == 2) = true := by rw [hrl]; rfl
    have HT : Hid (S.tick = (S, S.outs)) := Lib.hid (by unfold Sv.tick; rw [if_pos hrl])
    have HAP := Lib.hid (appends_any S g A c V P w HS.out HK.out.1.n (fun k hk _ W hW => appendTo_any S k g A c V P W (HS.out.below hW) (HK.out.2.p hrl k hk) HK.out.1.len (by have := HK.out.1.n; omega) (HK.out.1.nx1 hrl k hk) (HK.out.1.nxm hrl k hk)))
    clear hrl
    go_wp2_with fail
    refine HAP.out.mono ?_
    rintro e w4 hp4
    have HOUT : Hid (OutR w g A S S.outs e w4) := Lib.hid (OutR.of HS.out.keeps HK.out.2 hp4)
    obtain ⟨D, d, rfl, _, _⟩ := hp4
    generalize hol : S.outs.length = ol at *
    go_wp2_with fail
    go_ret
    show OutR w g A S.tick.1 S.tick.2 _ _
    rw [HT.out]
    exact HOUT.out
  · have b1 : ((S.role : Int) == 2) = false := by simp; omega
    by_cases ht : S.term = 1152921504606846976
    · have b2 : (S.term == 1152921504606846976) = true := by rw [ht]; rfl
      have HT : Hid (S.tick = (S, [])) := Lib.hid (by unfold Sv.tick; rw [if_neg hrl, if_pos ht])
      clear hrl ht
      go_wp2_with fail
      go_ret
      show OutR w g A S.tick.1 S.tick.2 _ _
      rw [HT.out]
      exact OutR.nil HS.out.keeps HK.out.2
    · have b2 : (S.term == 1152921504606846976) = false := by simp [ht]
      have HT : Hid (S.tick = if S.n = 1 then (S.cand.lead, S.cand.lead.outs) else (S.cand, S.cand.asks)) := Lib.hid (by unfold Sv.tick; rw [if_neg hrl, if_neg ht])
      have HGC := Lib.hid (HK.out.1.cand ht)
      have ht1 : -1 ≤ S.term ∧ S.term < 1152921504606846976 := by have := HK.out.1.t0; have := HK.out.1.t1; omega
      obtain ⟨ht0, ht1⟩ := ht1
      have s2 := HS.out.set (S' := { S with term := S.term + 1 }) 2 (.int .i64 (S.term + 1)) rfl HS.out.vl HS.out.pl rfl
      have s3 := s2.1.set (S' := { S with term := S.term + 1, vote := S.id }) 3 (.int .i64 (S.id : Nat)) rfl HS.out.vl HS.out.pl rfl
      have s5 := s3.1.set (S' := { S with term := S.term + 1, vote := S.id, role := 1 }) 5 (.int .u8 1) rfl HS.out.vl HS.out.pl rfl
      have s6 := s5.1.set (S' := S.cand) 6 (.int .i64 (-1)) rfl HS.out.vl HS.out.pl rfl
      have d3 : (w.setCell ⟨g, 2, none⟩ (.int .i64 (S.term + 1))).cell? ⟨g, 3, none⟩ = _ := s2.1.c3
      have g3 : (w.setCell ⟨g, 2, none⟩ (.int .i64 (S.term + 1))).frozen? ⟨g, 3, none⟩ = false := s2.1.top.frozen 3
      have i3 : (w.setCell ⟨g, 2, none⟩ (.int .i64 (S.term + 1))).cell? ⟨g, 0, none⟩ = some (.int .i64 (S.id : Nat)) := s2.1.c0
      have d5 : ((w.setCell ⟨g, 2, none⟩ (.int .i64 (S.term + 1))).setCell ⟨g, 3, none⟩ (.int .i64 (S.id : Nat))).cell? ⟨g, 5, none⟩ = _ := s3.1.c5
      have g5 : ((w.setCell ⟨g, 2, none⟩ (.int .i64 (S.term + 1))).setCell ⟨g, 3, none⟩ (.int .i64 (S.id : Nat))).frozen? ⟨g, 5, none⟩ = false := s3.1.top.frozen 5
      have i5 : ((w.setCell ⟨g, 2, none⟩ (.int .i64 (S.term + 1))).setCell ⟨g, 3, none⟩ (.int .i64 (S.id : Nat))).cell? ⟨g, 0, none⟩ = some (.int .i64 (S.id : Nat)) := s3.1.c0
      have d6 : (((w.setCell ⟨g, 2, none⟩ (.int .i64 (S.term + 1))).setCell ⟨g, 3, none⟩ (.int .i64 (S.id : Nat))).setCell ⟨g, 5, none⟩ (.int .u8 1)).cell? ⟨g, 6, none⟩ = _ := s5.1.c6
      have g6 : (((w.setCell ⟨g, 2, none⟩ (.int .i64 (S.term + 1))).setCell ⟨g, 3, none⟩ (.int .i64 (S.id : Nat))).setCell ⟨g, 5, none⟩ (.int .u8 1)).frozen? ⟨g, 6, none⟩ = false := s5.1.top.frozen 6
      have i6 : (((w.setCell ⟨g, 2, none⟩ (.int .i64 (S.term + 1))).setCell ⟨g, 3, none⟩ (.int .i64 (S.id : Nat))).setCell ⟨g, 5, none⟩ (.int .u8 1)).cell? ⟨g, 0, none⟩ = some (.int .i64 (S.id : Nat)) := s5.1.c0
      have f2 : w.frozen? ⟨g, 2, none⟩ = false := HS.out.top.frozen 2
      have HM4 : Hid (RvM ((((w.setCell ⟨g, 2, none⟩ (.int .i64 (S.term + 1))).setCell ⟨g, 3, none⟩ (.int .i64 (S.id : Nat))).setCell ⟨g, 5, none⟩ (.int .u8 1)).setCell ⟨g, 6, none⟩ (.int .i64 (-1))) g S.cand A c V P ∧ Chg (fun b => b = g) w ((((w.setCell ⟨g, 2, none⟩ (.int .i64 (S.term + 1))).setCell ⟨g, 3, none⟩ (.int .i64 (S.id : Nat))).setCell ⟨g, 5, none⟩ (.int .u8 1)).setCell ⟨g, 6, none⟩ (.int .i64 (-1)))) := Lib.hid ⟨s6.1, s2.2.trans (s3.2.trans (s5.2.trans s6.2))⟩
      have HTH : Hid (((((w.setCell ⟨g, 2, none⟩ (.int .i64 (S.term + 1))).setCell ⟨g, 3, none⟩ (.int .i64 (S.id : Nat))).setCell ⟨g, 5, none⟩ (.int .u8 1)).setCell ⟨g, 6, none⟩ (.int .i64 (-1))).there g 8 7) := Lib.hid (fun j hj => ⟨by rw [s6.1.cv hj]; rfl, s6.1.top.frozen _⟩)
      clear s2 s3 s5 s6
      clear hrl ht
      iterate 166 go_step
      clear d3 g3 i3 d5 g5 i5 d6 g6 i6 f2 c0 c1 c2 c3 c5 b1 b2
      generalize ((((w.setCell ⟨g, 2, none⟩ (.int .i64 (S.term + 1))).setCell ⟨g, 3, none⟩ (.int .i64 (S.id : Nat))).setCell ⟨g, 5, none⟩ (.int .u8 1)).setCell ⟨g, 6, none⟩ (.int .i64 (-1))) = w4 at *
      have H9 : Hid (RvM (w4.setCells g 8 [.bool false, .bool false, .bool false, .bool false, .bool false, .bool false, .bool false]) g S.cand A c (List.replicate 7 false) P ∧ Chg (fun b => b = g) w (w4.setCells g 8 [.bool false, .bool false, .bool false, .bool false, .bool false, .bool false, .bool false])) := Lib.hid ⟨HM4.out.1.clearV.1, HM4.out.2.trans HM4.out.1.clearV.2⟩
      go_wp2_with (refine wpList_store_mid rfl 96 (.tmp 46) (.tmp 44) rfl g 8 #[.bool false, .bool false, .bool false, .bool false, .bool false, .bool false, .bool false] rfl rfl HTH.out (by kernel_rfl) seven_one ?_; generalize w4.setCells g 8 (#[.bool false, .bool false, .bool false, .bool false, .bool false, .bool false, .bool false] : Array Value).toList = w5 at *)
      have hid7 : S.id < 7 := by have := HK.out.1.id; have := HK.out.1.n; omega
      have k0 : w5.cell? ⟨g, 0, none⟩ = some (.int .i64 (S.id : Nat)) := H9.out.1.c0
      have kv := H9.out.1.cv hid7
      have kf : w5.frozen? ⟨g, 8 + S.id, none⟩ = false := H9.out.1.top.frozen _
      have hst := H9.out.1.setV true hid7
      have H10 := Lib.hid (And.intro hst.1 (H9.out.2.trans hst.2))
      have HID := Lib.hid hid7
      clear hst
      have i0 : (0 : Int) ≤ (S.id : Int) := by omega
      have i7 : (S.id : Int) < 7 := by omega
      simp only [Act.put]
      go_region
      have H11 : Hid (RvM (w5.setCell ⟨g, 8 + S.id, none⟩ (.bool true)).drew g S.cand A c ((List.replicate 7 false).set S.id true) P ∧ Chg (fun b => b = g) w (w5.setCell ⟨g, 8 + S.id, none⟩ (.bool true)).drew) := Lib.hid ⟨H10.out.1.drew, H10.out.2.drewN 1⟩
      have HRL : Hid (Rel S.cand ((List.replicate 7 false).set S.id true) P) := Lib.hid ⟨fun _ k hk => by
        show _ = (2 ^ S.id).testBit k
        rw [bit_pow, List.getD_eq_getElem?_getD]
        by_cases h : S.id = k
        · subst h
          rw [List.getElem?_set_self (by rw [List.length_replicate]; exact hk)]; simp
        · rw [List.getElem?_set_ne h, List.getElem?_replicate, if_pos hk]; simp [h], fun h => absurd (show (1 : Nat) = 2 from h) (by decide)⟩
      clear H10 H9 k0 kv kf hid7 i0 i7 HTH HM4
      generalize (w5.setCell ⟨g, 8 + S.id, none⟩ (.bool true)).drew = w6 at *
      have k1 : w6.cell? ⟨g, 1, none⟩ = some (.int .i64 (S.n : Nat)) := H11.out.1.c1
      have HTR : Hid (∀ a, A = some a → (∃ a0, A = some a0 ∧ a.block = a0.block) ∨ w.heap.size ≤ a.block) := Lib.hid (fun a ha => .inl ⟨a, ha, rfl⟩)
      by_cases hn1 : S.n = 1
      · have b3 : ((S.n : Int) == 1) = true := by rw [hn1]; rfl
        have HT1 : Hid (S.tick = (S.cand.lead, S.cand.lead.outs)) := Lib.hid (by rw [HT.out, if_pos hn1])
        clear hn1
        go_wp2_with fail
        refine (leads_any S.cand g A c _ P w6 H11.out.1 HGC.out (by have := HK.out.1.t0; show 1 ≤ S.term + 1; omega)).mono ?_
        intro e w7 ho
        have HOUT := Lib.hid (OutR.after (H11.out.2.mono (fun b hb => .inl hb)) HTR.out ho)
        clear ho
        obtain ⟨_, _, _, _, _, D, d, _, _, _, _, _, _, rfl, _⟩ := HOUT.out
        generalize S.cand.lead.outs = ol at *
        generalize hol : ol.length = oll at *
        go_wp2_with fail
        go_ret
        show OutR w g A S.tick.1 S.tick.2 _ _
        rw [HT1.out]
        exact HOUT.out
      · have b3 : ((S.n : Int) == 1) = false := by simp; omega
        have HT1 : Hid (S.tick = (S.cand, S.cand.asks)) := Lib.hid (by rw [HT.out, if_neg hn1])
        obtain ⟨l, hll⟩ : ∃ l, l = S.log.length := ⟨_, rfl⟩
        obtain ⟨n, hnn⟩ : ∃ n, n = S.n := ⟨_, rfl⟩
        have HN := Lib.hid (And.intro hll hnn)
        have hn7 : n ≤ 7 := by rw [hnn]; exact HK.out.1.n
        have hl : l ≤ 4096 := by rw [hll]; exact HK.out.1.len
        rw [← hnn] at b3 k1
        have k4 : w6.cell? ⟨g, 4, none⟩ = some (.slice A l c) := by rw [hll]; exact H11.out.1.c4
        have HC : Hid (∀ W, Below w6.heap.size w6 W → W.cell? ⟨g, 0, none⟩ = some (.int .i64 (S.id : Nat)) ∧ W.cell? ⟨g, 1, none⟩ = some (.int .i64 (n : Nat)) ∧ W.cell? ⟨g, 2, none⟩ = some (.int .i64 (S.term + 1)) ∧ RvM W g S.cand A c ((List.replicate 7 false).set S.id true) P) := Lib.hid (fun W hW => by
          have h := H11.out.1.below hW
          exact ⟨h.c0, by rw [hnn]; exact h.c1, h.c2, h⟩)
        clear hn1 hll hnn HT
        go_wp2_with fail
        obtain ⟨T, hT⟩ : ∃ T, T = termAt S.log l := ⟨_, rfl⟩
        have HT73 : Hid (∀ W, Below w6.heap.size w6 W → Calls Try.prog 73 #[.pointer (some ⟨g, 0, none⟩), .int .i64 (l : Nat)] W fun e w' => e = .returned (.int .i64 T) ∧ w' = W) := Lib.hid (fun W hW => by
          have h := termat_any (HC.out W hW).2.2.2 l (by show l ≤ S.log.length; rw [← HN.out.1]; exact Nat.le_refl _) (by show S.log.length ≤ 100000; rw [← HN.out.1]; omega)
          rw [hT]
          exact h)
        have HASK : Hid (∀ k : Nat, S.cand.ask k = ⟨1, S.id, k, S.term + 1, (l : Nat), T, [], 0, false⟩) := Lib.hid (fun k => by
          rw [hT, HN.out.1]; rfl)
        clear hT k1 k4
        go_loopw [3, 5] (fun s3 s5 wr => ∃ (k m d : Nat) (D : Option Addr), s3 = .slice D m d ∧ s5 = .int .i64 (k : Nat) ∧ k ≤ n ∧ MsR wr w6.heap.size D m d ((((List.range k).filter fun k => !decide (k = S.id))).map S.cand.ask) ∧ Below w6.heap.size w6 wr) (fun _ s5 _ => n - (intOf s5).toNat)
        case atStart => exact ⟨0, 0, 0, none, rfl, rfl, by omega, MsR.nil _ _, Below.refl _ _⟩
        case round =>
          obtain ⟨k, m, d, D, rfl, rfl, hk, hms, hb⟩ := hrel
          have HM := Lib.hid (And.intro hms hb)
          have k0 := (HC.out wr hb).1
          have k1 := (HC.out wr hb).2.1
          clear hms hb
          by_cases hlt : k < n
          · have hd1 : decide ((k : Int) < (n : Int)) = true := decide_eq_true (by omega)
            by_cases hid : k = S.id
            · have hi : ((k : Int) != (S.id : Int)) = false := by simp [hid]
              have HE := Lib.hid hid
              clear hid
              go_wp2_with fail
              go_roundw
              case rel =>
                refine ⟨k + 1, m, d, D, rfl, by go_num, by omega, ?_, HM.out.2⟩
                rw [ks_succ, if_pos HE.out, List.append_nil]
                exact HM.out.1
              case measure => simp [intOf]; omega
            · have hi : ((k : Int) != (S.id : Int)) = true := by simp; omega
              have HE := Lib.hid hid
              clear hid
              have hm9 : m ≤ 100000 := by
                have h1 := HM.out.1.len
                rw [List.length_map] at h1
                have h2 := List.length_filter_le (fun k => !decide (k = S.id)) (List.range k)
                rw [List.length_range] at h2
                omega
              obtain ⟨X, hX1, hX2, hX3, hX4⟩ := HM.out.1
              have HX := Lib.hid (And.intro hX1 (And.intro hX2 (And.intro hX3 hX4)))
              clear hX1 hX2 hX3 hX4
              go_wp2_with fail
              have HFW : Hid (∀ W, Below wr.heap.size wr W → W.cell? ⟨g, 0, none⟩ = some (.int .i64 (S.id : Nat)) ∧ W.cell? ⟨g, 2, none⟩ = some (.int .i64 (S.term + 1))) := Lib.hid (fun W hW => ⟨(HC.out W (HM.out.2.trans (hW.mono HM.out.2.size))).1, (HC.out W (HM.out.2.trans (hW.mono HM.out.2.size))).2.2.1⟩)
              refine wp_region_plan (.q 0 (.q 1 (.q 2 (.q 3 (.q 4 (.q 5 (.q 6 (.q 7 (.q 8 (.q 9 (.q 10 (.q 11 (.q 12 (.q 13 (.a1 14 (.q 15 (.a1 16 (.a1 17 (.q 18 .fin))))))))))))))))))) 17 (fun W => Below wr.heap.size wr W) (by kernel_rfl) rfl (by kernel_rfl) (Below.refl _ _).drew ?_
              refine wpPlan_q rfl rfl rfl ?_; intro K hK
              go_big_quiet_op
              first | go_big_quiet_on | (refine ⟨_, fun _ _ => rfl, ?_⟩; go_big_quiet_on)
              refine wpPlan_q rfl rfl rfl ?_; intro K hK
              go_big_quiet_op
              first | go_big_quiet_on | (refine ⟨_, fun _ _ => rfl, ?_⟩; go_big_quiet_on)
              refine wpPlan_q rfl rfl rfl ?_; intro K hK
              go_big_quiet_op
              first | go_big_quiet_on | (refine ⟨_, fun _ _ => rfl, ?_⟩; go_big_quiet_on)
              refine wpPlan_q rfl rfl rfl ?_; intro K hK
              go_big_quiet_op
              first | go_big_quiet_on | (refine ⟨_, fun _ _ => rfl, ?_⟩; go_big_quiet_on)
              refine wpPlan_q rfl rfl rfl ?_; intro K hK
              refine ⟨(.int .i64 (S.id : Nat)), fun W hW => ?_, ?_⟩
              · have q0 := (HFW.out W hW).1
                unfold Oper.quietAt Oper.quietUpon
                simp [go_sem, q0]
              refine hK _ ?_
              clear hK K
              try simp only [Act.put, List.setIfInBounds_toArray, List.set_cons_succ, List.set_cons_zero]
              refine wpPlan_q rfl rfl rfl ?_; intro K hK
              go_big_quiet_op
              first | go_big_quiet_on | (refine ⟨_, fun _ _ => rfl, ?_⟩; go_big_quiet_on)
              refine wpPlan_q rfl rfl rfl ?_; intro K hK
              go_big_quiet_op
              first | go_big_quiet_on | (refine ⟨_, fun _ _ => rfl, ?_⟩; go_big_quiet_on)
              refine wpPlan_q rfl rfl rfl ?_; intro K hK
              go_big_quiet_op
              first | go_big_quiet_on | (refine ⟨_, fun _ _ => rfl, ?_⟩; go_big_quiet_on)
              refine wpPlan_q rfl rfl rfl ?_; intro K hK
              go_big_quiet_op
              first | go_big_quiet_on | (refine ⟨_, fun _ _ => rfl, ?_⟩; go_big_quiet_on)
              refine wpPlan_q rfl rfl rfl ?_; intro K hK
              go_big_quiet_op
              first | go_big_quiet_on | (refine ⟨_, fun _ _ => rfl, ?_⟩; go_big_quiet_on)
              refine wpPlan_q rfl rfl rfl ?_; intro K hK
              refine ⟨(.int .i64 (S.term + 1)), fun W hW => ?_, ?_⟩
              · have q0 := (HFW.out W hW).2
                unfold Oper.quietAt Oper.quietUpon
                simp [go_sem, q0]
              refine hK _ ?_
              clear hK K
              try simp only [Act.put, List.setIfInBounds_toArray, List.set_cons_succ, List.set_cons_zero]
              refine wpPlan_q rfl rfl rfl ?_; intro K hK
              go_big_quiet_op
              first | go_big_quiet_on | (refine ⟨_, fun _ _ => rfl, ?_⟩; go_big_quiet_on)
              refine wpPlan_q rfl rfl rfl ?_; intro K hK
              go_big_quiet_op
              first | go_big_quiet_on | (refine ⟨_, fun _ _ => rfl, ?_⟩; go_big_quiet_on)
              refine wpPlan_q rfl rfl rfl ?_; intro K hK
              go_big_quiet_op
              first | go_big_quiet_on | (refine ⟨_, fun _ _ => rfl, ?_⟩; go_big_quiet_on)
              refine wpPlan_act true rfl rfl rfl ?_; intro K hK
              go_simp
              refine (HT73.out _ HM.out.2.drew).mono ?_
              rintro e w8 ⟨rfl, hw8⟩
              rw [hw8]
              clear hw8 w8
              refine hK _ _ (fun _ => (Below.refl _ _).drew) ?_
              clear hK K
              try simp only [Act.put, List.setIfInBounds_toArray, List.set_cons_succ, List.set_cons_zero]
              refine wpPlan_q rfl rfl rfl ?_; intro K hK
              go_big_quiet_op
              first | go_big_quiet_on | (refine ⟨_, fun _ _ => rfl, ?_⟩; go_big_quiet_on)
              refine wpPlan_act true rfl rfl rfl ?_; intro K hK
              go_simp
              refine hK _ _ (fun _ => (Below.refl wr.heap.size wr).drew.alloc (Nat.le_refl _) _) ?_
              clear hK K
              try simp only [Act.put, List.setIfInBounds_toArray, List.set_cons_succ, List.set_cons_zero]
              refine wpPlan_act false rfl rfl rfl ?_; intro K hK
              refine wp_app_msg (.tmp 82) (.tmp 98) rfl w6.heap.size wr.heap.size m d D (rowOf xcell X) (⟨1, S.id, (k : Nat), S.term + 1, (l : Nat), T, [], 0, false⟩, none, 0) rfl ((own_below HX.out.2.2.1 (Below.refl wr.heap.size wr).drew).alloc _) rfl (heap_alloc_new wr.drew _) hm9 (by have := HM.out.2.size; simp; omega) ?_
              intro A4 c4 w4 ho4 hg4
              have H4 := Lib.hid (And.intro ho4 hg4)
              clear ho4 hg4
              refine hK _ _ (fun h => by cases h) ?_
              clear hK K
              try simp only [Act.put, List.setIfInBounds_toArray, List.set_cons_succ, List.set_cons_zero]
              refine wpPlan_p rfl rfl rfl ?_; intro K hK
              go_big_quiet_op
              first | go_big_quiet_on | (refine ⟨_, fun _ _ => rfl, ?_⟩; go_big_quiet_on)
              refine wpPlan_fin ?_
              go_wp2_with fail
              go_roundw
              case rel =>
                refine ⟨k + 1, m + 1, c4, A4, rfl, by go_num, by omega, ?_, ?_⟩
                · rw [ks_succ, if_neg HE.out, List.map_append, List.map_singleton, HASK.out k]
                  exact MsR.snoc HX.out.1 HX.out.2.1 HX.out.2.2.1 HX.out.2.2.2 (Below.refl _ _) (E := none) (ec := 0) (World.ownsRow_nil _ _ _ _) ((Below.refl wr.heap.size wr).drew.alloc (Nat.le_refl _) _) H4.out.2 H4.out.1
                · exact ((HM.out.2.drew).alloc (by have := HM.out.2.size; simp; omega) _).grown H4.out.2 (by have := HM.out.2.size; simp; omega) (fun r hr => (World.ownsRow.lt HX.out.2.2.1 r hr).1)
              case measure => simp [intOf]; omega
          · have hd1 : decide ((k : Int) < (n : Int)) = false := decide_eq_false (by omega)
            have hkn : k = n := by omega
            have HKN := Lib.hid hkn
            clear hkn
            go_wp2_with fail
            go_ret
            show OutR w g A S.tick.1 S.tick.2 _ _
            rw [HT1.out]
            have hl2 := HM.out.1.len
            have hmm := HM.out.1
            have e : S.cand.asks = ((List.range k).filter fun k => !decide (k = S.id)).map S.cand.ask := by rw [HKN.out, HN.out.2]; rfl
            rw [← e] at hl2 hmm
            exact OutR.after (H11.out.2.mono (fun b hb => .inl hb)) HTR.out (OutR.of H11.out.1.keeps HRL.out ⟨D, d, by rw [← hl2]; rfl, by rw [← hl2]; exact hmm, HM.out.2⟩)
end Go.Proofs.Ytjodglepaeomiaa
