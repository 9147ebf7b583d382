/- Contract of lead. -/
import Derived.Test.YtjodglepaeomiaaAgr
namespace Go.Proofs.Ytjodglepaeomiaa
open Go.RowKit

theorem svCells_nx {S : Sv} {A : Option Addr} {c : Nat} {k : Nat} (v : Nat) (hk : k < 7) (h : S.nx.length = 7) : (svCells S A c).set (9 + k) (.int .i64 ((v : Nat) : Int)) = svCells { S with nx := S.nx.set k v } A c := by
  unfold svCells
  rw [List.set_append_right _ _ (by simp), List.set_append_left _ _ (by simp; omega)]
  congr 2
  rw [show 9 + k - ([.int .i64 (S.id : Nat), .int .i64 (S.n : Nat), .int .i64 S.term, .int .i64 S.vote, .slice A S.log.length c, .int .u8 (S.role : Nat), .int .i64 S.leader, .int .i64 (S.commit : Nat), .int .u64 (S.voters : Nat)] : List Value).length = k by simp, List.map_set]
  rfl
theorem svCells_mt {S : Sv} {A : Option Addr} {c : Nat} {k : Nat} (v : Nat) (hk : k < 7) (h : S.nx.length = 7) : (svCells S A c).set (16 + k) (.int .i64 ((v : Nat) : Int)) = svCells { S with mt := S.mt.set k v } A c := by
  unfold svCells
  rw [List.set_append_right _ _ (by simp; omega), List.set_append_right _ _ (by simp; omega)]
  congr 2
  rw [show 16 + k - ([.int .i64 (S.id : Nat), .int .i64 (S.n : Nat), .int .i64 S.term, .int .i64 S.vote, .slice A S.log.length c, .int .u8 (S.role : Nat), .int .i64 S.leader, .int .i64 (S.commit : Nat), .int .u64 (S.voters : Nat)] : List Value).length - (S.nx.map icell).length = k by simp; omega, List.map_set]
  rfl
theorem setTo_length (v : Nat) : ∀ (k : Nat) (l : List Nat), (setTo v k l).length = l.length
  | 0, _ => rfl
  | k + 1, l => by rw [setTo, List.length_set, setTo_length v k l]
/-- A server as it is being made a leader. -/
def Sv.leadK (S : Sv) (k : Nat) : Sv := { S with role := 2, leader := S.id, nx := setTo (S.log.length + 1) k S.nx, mt := setTo 0 k S.mt }
theorem setTo_get (v : Nat) : ∀ (n : Nat) (l : List Nat) (k : Nat), k < n → k < l.length → (setTo v n l).getD k 0 = v
  | 0, _, _, h, _ => by omega
  | n + 1, l, k, h, hl => by
    rw [setTo, List.getD_eq_getElem?_getD, List.getElem?_set]
    by_cases hk : n = k
    · subst hk
      simp [setTo_length, hl]
    · rw [if_neg hk, ← List.getD_eq_getElem?_getD]
      exact setTo_get v n l k (by omega) hl
/-- What a step of a server leaves: the server, and messages in memory of their own. -/
def OutS (w : World) (g : Nat) (A : Option Addr) (S' : Sv) (ms : List Mg) (e : Ending) (w' : World) : Prop :=
  ∃ (A' : Option Addr) (c' B : Nat) (D : Option Addr) (d : Nat), SvM w' g S' A' c' ∧ Chg (SvT g A) w w' ∧ (∀ a, A' = some a → (∃ a0, A = some a0 ∧ a.block = a0.block) ∨ w.heap.size ≤ a.block) ∧ w.heap.size ≤ B ∧ (∀ a, A' = some a → a.block < B) ∧ e = .returned (.slice D ms.length d) ∧ MsR w' B D ms.length d ms
theorem OutS.of {w w1 w' : World} {g : Nat} {A : Option Addr} {S' : Sv} {ms : List Mg} {e : Ending} (k : KeepsM w g A S' w1) (h : OutPost w1 ms e w') : OutS w g A S' ms e w' := by
  obtain ⟨A', c', h1, h2, h3⟩ := k
  obtain ⟨D, d, rfl, hm, hb⟩ := h
  exact ⟨A', c', w1.heap.size, D, d, h1.below hb, h2.trans (.of_below hb), h3, h2.size, h1.alt, rfl, hm⟩
theorem SvM.keeps {w : World} {g c : Nat} {S : Sv} {A : Option Addr} (h : SvM w g S A c) : KeepsM w g A S w := ⟨A, c, h, Chg.refl _ _, fun a ha => .inl ⟨a, ha, rfl⟩⟩
theorem KeepsM.next {w w1 w2 : World} {g : Nat} {A A' : Option Addr} {S' : Sv} (h : Chg (SvT g A) w w1) (h0 : ∀ a, A' = some a → (∃ a0, A = some a0 ∧ a.block = a0.block) ∨ w.heap.size ≤ a.block) (k : KeepsM w1 g A' S' w2) : KeepsM w g A S' w2 := KeepsM.trans h h0 k
set_option maxRecDepth 100000 in
set_option maxHeartbeats 8000000 in
theorem lead_any (S : Sv) (g : Nat) (A : Option Addr) (c : Nat) (w : World) (hS : SvM w g S A c) (hl : S.log.length ≤ 4096) (hn : S.n ≤ 7) (hcm : S.commit ≤ 4096) :
    Calls Try.prog 38 #[.pointer (some ⟨g, 0, none⟩)] w (OutS w g A S.lead S.lead.outs) := by
  have hmf : ∀ (fn : Fn) (first cap : Array Value) (w : World), (Instr.makeFunc fn first cap).run Try.prog w = .ok (.func fn first cap) w := fun _ _ _ _ => rfl
  have c0 := hS.c0
  have c1 := hS.c1
  have c5 := hS.c5
  have c6 := hS.c6
  have f5 : w.frozen? ⟨g, 5, none⟩ = false := hS.top.frozen 5
  have f6 : w.frozen? ⟨g, 6, none⟩ = false := hS.top.frozen 6
  have s5 := hS.set (S' := { S with role := 2 }) 5 (.int .u8 2) rfl hS.nxl hS.mtl rfl
  have s6 := s5.1.set (S' := S.leadK 0) 6 (.int .i64 (S.id : Nat)) rfl hS.nxl hS.mtl rfl
  have HK : Hid (SvM ((w.setCell ⟨g, 5, none⟩ (.int .u8 2)).setCell ⟨g, 6, none⟩ (.int .i64 (S.id : Nat))) g (S.leadK 0) A c ∧ Chg (fun b => b = g) w ((w.setCell ⟨g, 5, none⟩ (.int .u8 2)).setCell ⟨g, 6, none⟩ (.int .i64 (S.id : Nat)))) := ⟨s6.1, s5.2.trans s6.2⟩
  obtain ⟨l, hll⟩ : ∃ l, l = S.log.length := ⟨_, rfl⟩
  obtain ⟨n, hnn⟩ : ∃ n, n = S.n := ⟨_, rfl⟩
  have HN := Lib.hid (And.intro hll (And.intro hnn (And.intro hS.nxl (And.intro hS.mtl hcm))))
  rw [← hll] at hl
  rw [← hnn] at hn c1
  clear hS s5 s6 hll hnn hcm
  go_enter Try.func38, Try.ntmps38
  go_wp2_with fail
  go_loopw [18] (fun s18 wr => ∃ k : Nat, s18 = .int .i64 (k : Nat) ∧ k ≤ n ∧ SvM wr g (S.leadK k) A c ∧ Chg (fun b => b = g) w wr) (fun s18 _ => n - (intOf s18).toNat)
  case atStart => exact ⟨0, rfl, by omega, HK.out.1, HK.out.2⟩
  case round =>
    obtain ⟨k, rfl, hk, hm, hch⟩ := hrel
    have HM := Lib.hid (And.intro hm hch)
    clear hm hch
    by_cases hlt : k < n
    · have hd1 : decide ((k : Int) < (n : Int)) = true := decide_eq_true (by omega)
      have k0 : (0 : Int) ≤ (k : Int) := by omega
      have k7 : (k : Int) < 7 := by omega
      have HLA := Lib.hid (last_any wr.drew g l c A (by rw [HN.out.1]; exact HM.out.1.drew.c4))
      have hx : (S.leadK k).nx.length = 7 := HM.out.1.nxl
      have hy : (S.leadK k).mt.length = 7 := HM.out.1.mtl
      have s1 := HM.out.1.drew.set (S' := { S.leadK k with nx := (S.leadK k).nx.set k (l + 1) }) (9 + k) (.int .i64 ((l + 1 : Nat) : Int)) rfl (by rw [List.length_set]; exact hx) hy (svCells_nx (l + 1) (by omega) hx)
      have s2 := s1.1.set (S' := S.leadK (k + 1)) (16 + k) (.int .i64 ((0 : Nat) : Int)) rfl (by show (setTo _ _ _).length = 7; rw [setTo_length]; exact HN.out.2.2.1) (by show (setTo _ _ _).length = 7; rw [setTo_length]; exact HN.out.2.2.2.1) (by
        rw [svCells_mt (S := { S.leadK k with nx := (S.leadK k).nx.set k (l + 1) }) 0 (by omega) (by rw [List.length_set]; exact hx)]
        rw [HN.out.1]; rfl)
      rw [show ((l + 1 : Nat) : Int) = (l : Int) + 1 by omega] at s1 s2
      rw [show (((0 : Nat)) : Int) = 0 by rfl] at s2
      have j9 : wr.cell? ⟨g, 9 + k, none⟩ = _ := HM.out.1.cn (show k < 7 by omega)
      have g9 : wr.frozen? ⟨g, 9 + k, none⟩ = false := HM.out.1.top.frozen _
      have j16 : (wr.setCell ⟨g, 9 + k, none⟩ (.int .i64 ((l : Int) + 1))).cell? ⟨g, 16 + k, none⟩ = _ := s1.1.cm (show k < 7 by omega)
      have g16 : (wr.setCell ⟨g, 9 + k, none⟩ (.int .i64 ((l : Int) + 1))).frozen? ⟨g, 16 + k, none⟩ = false := s1.1.top.frozen _
      have HS2 := Lib.hid (And.intro s2.1 (And.intro s1.2 s2.2))
      clear hx hy s1 s2
      go_wp2_with fail
      refine wp_region_plan (.q 0 (.q 1 (.q 2 (.q 3 (.q 4 (.q 7 (.q 8 (.q 11 (.q 12 (.a1 5 (.q 6 (.q 9 (.a1 10 (.q 13 (.a1 14 .fin))))))))))))))) 14 (fun _ => True) (by kernel_rfl) rfl (by kernel_rfl) trivial ?_
      refine wpPlan_q rfl rfl rfl ?_; intro K hK
      go_big_quiet_op
      first | go_big_quiet_on | (refine ⟨_, fun _ _ => rfl, ?_⟩; go_big_quiet_on)
      refine wpPlan_q rfl rfl rfl ?_; intro K hK
      go_big_quiet_op
      first | go_big_quiet_on | (refine ⟨_, fun _ _ => rfl, ?_⟩; go_big_quiet_on)
      refine wpPlan_q rfl rfl rfl ?_; intro K hK
      go_big_quiet_op
      first | go_big_quiet_on | (refine ⟨_, fun _ _ => rfl, ?_⟩; go_big_quiet_on)
      refine wpPlan_q rfl rfl rfl ?_; intro K hK
      go_big_quiet_op
      first | go_big_quiet_on | (refine ⟨_, fun _ _ => rfl, ?_⟩; go_big_quiet_on)
      refine wpPlan_q rfl rfl rfl ?_; intro K hK
      go_big_quiet_op
      first | go_big_quiet_on | (refine ⟨_, fun _ _ => rfl, ?_⟩; go_big_quiet_on)
      refine wpPlan_q rfl rfl rfl ?_; intro K hK
      go_big_quiet_op
      first | go_big_quiet_on | (refine ⟨_, fun _ _ => rfl, ?_⟩; go_big_quiet_on)
      refine wpPlan_q rfl rfl rfl ?_; intro K hK
      go_big_quiet_op
      first | go_big_quiet_on | (refine ⟨_, fun _ _ => rfl, ?_⟩; go_big_quiet_on)
      refine wpPlan_q rfl rfl rfl ?_; intro K hK
      go_big_quiet_op
      first | go_big_quiet_on | (refine ⟨_, fun _ _ => rfl, ?_⟩; go_big_quiet_on)
      refine wpPlan_q rfl rfl rfl ?_; intro K hK
      go_big_quiet_op
      first | go_big_quiet_on | (refine ⟨_, fun _ _ => rfl, ?_⟩; go_big_quiet_on)
      refine wpPlan_act true rfl rfl rfl ?_; intro K hK
      go_simp
      refine (HLA.out.mono ?_)
      rintro e w2 ⟨rfl, hw2⟩
      rw [hw2]
      clear hw2 w2
      refine hK _ _ (fun _ => trivial) ?_
      clear hK K
      try simp only [Act.put, List.setIfInBounds_toArray, List.set_cons_succ, List.set_cons_zero]
      refine wpPlan_q rfl rfl rfl ?_; intro K hK
      go_big_quiet_op
      first | go_big_quiet_on | (refine ⟨_, fun _ _ => rfl, ?_⟩; go_big_quiet_on)
      refine wpPlan_q rfl rfl rfl ?_; intro K hK
      go_big_quiet_op
      first | go_big_quiet_on | (refine ⟨_, fun _ _ => rfl, ?_⟩; go_big_quiet_on)
      refine wpPlan_act true rfl rfl rfl ?_; intro K hK
      go_simp
      refine hK _ _ (fun _ => trivial) ?_
      clear hK K
      try simp only [Act.put, List.setIfInBounds_toArray, List.set_cons_succ, List.set_cons_zero]
      refine wpPlan_q rfl rfl rfl ?_; intro K hK
      go_big_quiet_op
      first | go_big_quiet_on | (refine ⟨_, fun _ _ => rfl, ?_⟩; go_big_quiet_on)
      refine wpPlan_act false rfl rfl rfl ?_; intro K hK
      go_simp
      refine hK _ _ (fun h => by cases h) ?_
      clear hK K
      try simp only [Act.put, List.setIfInBounds_toArray, List.set_cons_succ, List.set_cons_zero]
      refine wpPlan_fin ?_
      go_wp2_with fail
      go_roundw
      case rel => exact ⟨k + 1, by go_num, by omega, HS2.out.1, HM.out.2.drew.trans (HS2.out.2.1.trans HS2.out.2.2)⟩
      case measure => simp [intOf]; omega
    · have hd1 : decide ((k : Int) < (n : Int)) = false := decide_eq_false (by omega)
      have hkn : k = n := by omega
      have HKN : Hid (S.leadK k = S.lead1) := by rw [hkn, HN.out.2.1]; rfl
      have HM1 : Hid (SvM wr g S.lead1 A c ∧ Chg (fun b => b = g) w wr) := by rw [← HKN.out]; exact HM.out
      have HLA := Lib.hid (last_any wr g l c A (by rw [HN.out.1]; exact HM1.out.1.c4))
      have HLG : Hid (S.lead1.log.length = l ∧ S.lead1.commit ≤ 4096) := ⟨HN.out.1.symm, HN.out.2.2.2.2⟩
      have HLX : Hid (∀ k, k < S.lead.n → S.lead.nx.getD k 0 = l + 1) := fun k hk => by
        have h1 : S.lead.nx = setTo (S.log.length + 1) S.n S.nx := by
          unfold Sv.lead Sv.agree Sv.lead2
          by_cases h : S.log.length < 4096
          · rw [if_pos h]; rfl
          · rw [if_neg h]; rfl
        have h2 : S.lead.n = S.n := by
          unfold Sv.lead Sv.agree Sv.lead2
          by_cases h : S.log.length < 4096
          · rw [if_pos h]; rfl
          · rw [if_neg h]; rfl
        rw [h1, HN.out.1]
        rw [h2] at hk
        exact setTo_get _ _ _ _ hk (by rw [HN.out.2.2.1]; have := HN.out.2.1; omega)
      have HLN : Hid (S.lead.log.length ≤ 4096 ∧ l + 1 ≤ S.lead.log.length + 1 ∧ S.lead.n ≤ 7) := by
        have h1 := HN.out.1
        have h2 := HN.out.2.1
        unfold Sv.lead Sv.agree Sv.lead2
        by_cases h : S.log.length < 4096
        · rw [if_pos h]
          refine ⟨?_, ?_, ?_⟩
          · show (S.log ++ [_]).length ≤ 4096; rw [List.length_append, List.length_singleton]; omega
          · show l + 1 ≤ (S.log ++ [_]).length + 1; rw [List.length_append, List.length_singleton]; omega
          · show S.n ≤ 7; omega
        · rw [if_neg h]
          refine ⟨?_, ?_, ?_⟩
          · show S.log.length ≤ 4096; omega
          · show l + 1 ≤ S.log.length + 1; omega
          · show S.n ≤ 7; omega
      clear hkn
      go_wp2_with fail
      refine HLA.out.mono ?_
      rintro e w1 ⟨rfl, hw1⟩
      rw [hw1]
      clear hw1 w1 HLA
      by_cases hl4 : l < 4096
      · have d4 : decide ((l : Int) < 4096) = true := decide_eq_true (by omega)
        have HPT := Lib.hid (put_any S.lead1 ⟨#[]⟩ g A c wr HM1.out.1 (by rw [HLG.out.1]; exact hl))
        go_wp2_with fail
        refine HPT.out.mono ?_
        rintro e w2 ⟨rfl, A2, c2, hm2, hc2, ht2⟩
        have HL2 := Lib.hid (show S.lead1.put ⟨#[]⟩ = S.lead2 from by unfold Sv.lead2; rw [if_pos (by rw [← HN.out.1]; exact hl4)])
        rw [HL2.out] at hm2
        have HK2 : Hid (Chg (SvT g A) w w2 ∧ ∀ a, A2 = some a → (∃ a0, A = some a0 ∧ a.block = a0.block) ∨ w.heap.size ≤ a.block) :=
          ⟨(HM1.out.2.mono (fun b hb => .inl hb)).trans hc2, fun a ha => (ht2 a ha).imp id (fun h => Nat.le_trans HM1.out.2.size h)⟩
        have HAG := Lib.hid (agree_any S.lead2 g A2 c2 w2 hm2 (by rw [← HL2.out]; show (S.log ++ [_]).length ≤ 4096; rw [List.length_append, List.length_singleton, ← HN.out.1]; omega) (by rw [← HL2.out]; show S.n ≤ 7; rw [← HN.out.2.1]; exact hn) (by rw [← HL2.out]; exact HN.out.2.2.2.2))
        clear hm2 hc2 ht2
        go_wp2_with fail
        refine HAG.out.mono ?_
        rintro e w3 ⟨rfl, hk3⟩
        obtain ⟨A3, c3, hm3, hc3, ht3⟩ := KeepsM.trans HK2.out.1 HK2.out.2 hk3
        have H3 := Lib.hid (And.intro hm3 (And.intro hc3 ht3))
        have HOT := Lib.hid (others_any S.lead g A3 c3 w3 37 #[.pointer (some ⟨g, 0, none⟩)] #[] S.lead.send hm3 HLN.out.2.2 (fun _ _ => rfl) (fun k hk _ W hW => send_any S.lead k g A3 c3 W (hm3.below hW) HLN.out.1 (Nat.lt_of_lt_of_le hk HLN.out.2.2) (by rw [HLX.out k hk]; omega) (by rw [HLX.out k hk]; exact HLN.out.2.1)))
        clear hm3 hc3 ht3 hk3
        go_wp2_with fail
        refine HOT.out.mono ?_
        rintro e w4 ⟨D, d, rfl, hms, hb4⟩
        have H4 := Lib.hid (And.intro hms hb4)
        clear hms hb4
        have HSZ : Hid (w.heap.size ≤ w3.heap.size) := H3.out.2.1.size
        have HOUT : Hid (OutS w g A S.lead S.lead.outs (.returned (.slice D S.lead.outs.length d)) w4) := OutS.of ⟨A3, c3, H3.out.1, H3.out.2.1, H3.out.2.2⟩ ⟨D, d, rfl, H4.out.1, H4.out.2⟩
        have HLEN : Hid ((List.map S.lead.send S.lead.ks).length = S.lead.outs.length) := rfl
        rw [HLEN.out]
        generalize S.lead.outs.length = ol at HOUT ⊢
        go_wp2_with fail
        go_ret
        exact HOUT.out
      · have d4 : decide ((l : Int) < 4096) = false := decide_eq_false (by omega)
        have HL2 := Lib.hid (show S.lead1 = S.lead2 from by unfold Sv.lead2; rw [if_neg (by rw [← HN.out.1]; exact hl4)])
        have HK2 : Hid (Chg (SvT g A) w wr ∧ ∀ a, A = some a → (∃ a0, A = some a0 ∧ a.block = a0.block) ∨ w.heap.size ≤ a.block) :=
          ⟨HM1.out.2.mono (fun b hb => .inl hb), fun a ha => .inl ⟨a, ha, rfl⟩⟩
        have HAG := Lib.hid (agree_any S.lead2 g A c wr (by rw [← HL2.out]; exact HM1.out.1) (by rw [← HL2.out, HLG.out.1]; exact hl) (by rw [← HL2.out]; show S.n ≤ 7; rw [← HN.out.2.1]; exact hn) (by rw [← HL2.out]; exact HLG.out.2))
        go_wp2_with fail
        refine HAG.out.mono ?_
        rintro e w3 ⟨rfl, hk3⟩
        obtain ⟨A3, c3, hm3, hc3, ht3⟩ := KeepsM.trans HK2.out.1 HK2.out.2 hk3
        have H3 := Lib.hid (And.intro hm3 (And.intro hc3 ht3))
        have HOT := Lib.hid (others_any S.lead g A3 c3 w3 37 #[.pointer (some ⟨g, 0, none⟩)] #[] S.lead.send hm3 HLN.out.2.2 (fun _ _ => rfl) (fun k hk _ W hW => send_any S.lead k g A3 c3 W (hm3.below hW) HLN.out.1 (Nat.lt_of_lt_of_le hk HLN.out.2.2) (by rw [HLX.out k hk]; omega) (by rw [HLX.out k hk]; exact HLN.out.2.1)))
        clear hm3 hc3 ht3 hk3
        go_wp2_with fail
        refine HOT.out.mono ?_
        rintro e w4 ⟨D, d, rfl, hms, hb4⟩
        have H4 := Lib.hid (And.intro hms hb4)
        clear hms hb4
        have HSZ : Hid (w.heap.size ≤ w3.heap.size) := H3.out.2.1.size
        have HOUT : Hid (OutS w g A S.lead S.lead.outs (.returned (.slice D S.lead.outs.length d)) w4) := OutS.of ⟨A3, c3, H3.out.1, H3.out.2.1, H3.out.2.2⟩ ⟨D, d, rfl, H4.out.1, H4.out.2⟩
        have HLEN : Hid ((List.map S.lead.send S.lead.ks).length = S.lead.outs.length) := rfl
        rw [HLEN.out]
        generalize S.lead.outs.length = ol at HOUT ⊢
        go_wp2_with fail
        go_ret
        exact HOUT.out
end Go.Proofs.Ytjodglepaeomiaa
