/- Contract of the document's leads. -/
import Derived.Test.YtjodglepaeomiaaRmj
namespace Go.Proofs.Ytjodglepaeomiaa
open Go.RowKit

/-- The first k peers are made anew. -/
def peersTo (v : Nat) : Nat → List (Nat × Nat) → List (Nat × Nat)
  | 0, P => P
  | k + 1, P => (peersTo v k P).set k (v, 0)
theorem peersTo_length (v : Nat) : ∀ (k : Nat) (P : List (Nat × Nat)), (peersTo v k P).length = P.length
  | 0, _ => rfl
  | k + 1, P => by rw [peersTo, List.length_set, peersTo_length v k P]
theorem peersTo_get (v : Nat) : ∀ (n : Nat) (P : List (Nat × Nat)) (k : Nat), k < n → k < P.length → (peersTo v n P).getD k (0, 0) = (v, 0)
  | n + 1, P, k, h, hl => by
    rw [peersTo]
    by_cases hk : n = k
    · rw [hk, List.getD_eq_getElem?_getD, List.getElem?_set_self (by rw [peersTo_length]; exact hl)]; rfl
    · rw [List.getD_eq_getElem?_getD, List.getElem?_set_ne hk, ← List.getD_eq_getElem?_getD]
      exact peersTo_get v n P k (by omega) hl
theorem rvCells_p {S : Sv} {A : Option Addr} {c k : Nat} {V : List Bool} {P : List (Nat × Nat)} (a b : Nat) (hk : k < 7) (hv : V.length = 7) (hp : P.length = 7) :
    ((rvCells S A c V P).set (15 + k * 2) (.int .i64 (a : Nat))).set (15 + k * 2 + 1) (.int .i64 (b : Nat)) = rvCells S A c V (P.set k (a, b)) := by
  unfold rvCells
  rw [List.set_append_right _ _ (by simp; omega), List.set_append_right _ _ (by simp; omega), List.set_append_right _ _ (by simp; omega), List.set_append_right _ _ (by simp; omega)]
  congr 2
  rw [← prow_set P k a b (by omega)]
  simp only [List.length_cons, List.length_nil, List.length_map, Nat.zero_add, hv]
  rw [show 15 + k * 2 - (7 + 1) - 7 = k * 2 by omega, show 15 + k * 2 + 1 - (7 + 1) - 7 = k * 2 + 1 by omega]
theorem RvM.setP {w : World} {g c k : Nat} {S : Sv} {A : Option Addr} {V : List Bool} {P : List (Nat × Nat)} (h : RvM w g S A c V P) (a b : Nat) (hk : k < 7) :
    RvM ((w.setCell ⟨g, 15 + k * 2, none⟩ (.int .i64 (a : Nat))).setCell ⟨g, 15 + k * 2 + 1, none⟩ (.int .i64 (b : Nat))) g S A c V (P.set k (a, b)) ∧ Chg (fun b => b = g) w ((w.setCell ⟨g, 15 + k * 2, none⟩ (.int .i64 (a : Nat))).setCell ⟨g, 15 + k * 2 + 1, none⟩ (.int .i64 (b : Nat))) := by
  have hch : Chg (fun b => b = g) w ((w.setCell ⟨g, 15 + k * 2, none⟩ (.int .i64 (a : Nat))).setCell ⟨g, 15 + k * 2 + 1, none⟩ (.int .i64 (b : Nat))) :=
    Chg.setCell (T := fun b => b = g) (Chg.setCell (T := fun b => b = g) (Chg.refl _ _) (p := ⟨g, 15 + k * 2, none⟩) rfl _) (p := ⟨g, 15 + k * 2 + 1, none⟩) rfl _
  refine ⟨⟨?_, ?_, h.vl, by rw [List.length_set]; exact h.pl⟩, hch⟩
  · have h1 := (h.top.set_ (15 + k * 2) (.int .i64 (a : Nat))).set_ (15 + k * 2 + 1) (.int .i64 (b : Nat))
    rw [List.setIfInBounds_toArray, List.setIfInBounds_toArray, rvCells_p a b hk h.vl h.pl] at h1
    exact h1
  · refine own_chg h.log hch (fun g' hg' he => ?_)
    obtain ⟨x, ha, hb⟩ := own_block' h.log hg'
    exact h.ne x ha (hb.trans he)
theorem ld_n (S : Sv) : S.lead.n = S.n := by unfold Sv.lead Sv.agree Sv.lead2; split <;> rfl
theorem ld_role (S : Sv) : S.lead.role = 2 := by unfold Sv.lead Sv.agree Sv.lead2; split <;> rfl
theorem RvM.grown_top {w w1 w2 : World} {g c n : Nat} {S : Sv} {A : Option Addr} {V : List Bool} {P : List (Nat × Nat)} (h : RvM w g S A c V P) (hb : Below w.heap.size w w1) (hg : w1.grownBy w2 (Value.slice A n c).ownBlock) (hn : n = S.log.length) :
    Blk w2 g 101 (rvCells S A c V P).toArray := by
  subst hn
  exact h.top.chg ((Chg.of_below hb).trans (.of_grown hg (T := fun b => ∃ a, A = some a ∧ a.block = b) (fun r hr => own_block' h.log hr))) (fun ⟨a, ha, hb2⟩ => h.ne a ha hb2)
set_option maxRecDepth 100000 in
set_option maxHeartbeats 8000000 in
theorem leads_any (S : Sv) (g : Nat) (A : Option Addr) (c : Nat) (V : List Bool) (P : List (Nat × Nat)) (w : World) (hS : RvM w g S A c V P) (hok : S.Good) (ht : 1 ≤ S.term) :
    Calls Try.prog 72 #[.pointer (some ⟨g, 0, none⟩)] w (OutR w g A S.lead S.lead.outs) := by
  have hl := hok.len
  have c0 := hS.c0
  have c5 := hS.c5
  have c6 := hS.c6
  have f5 : w.frozen? ⟨g, 5, none⟩ = false := hS.top.frozen 5
  have f6 : w.frozen? ⟨g, 6, none⟩ = false := hS.top.frozen 6
  have s5 := hS.set (S' := { S with role := 2 }) 5 (.int .u8 2) rfl hS.vl hS.pl rfl
  have s6 := s5.1.set (S' := { S with role := 2, leader := S.id }) 6 (.int .i64 (S.id : Nat)) rfl hS.vl hS.pl rfl
  have y0 : (w.setCell ⟨g, 5, none⟩ (.int .u8 2)).cell? ⟨g, 0, none⟩ = some (.int .i64 (S.id : Nat)) := s5.1.c0
  have y6 : (w.setCell ⟨g, 5, none⟩ (.int .u8 2)).cell? ⟨g, 6, none⟩ = some (.int .i64 S.leader) := s5.1.c6
  have g6 : (w.setCell ⟨g, 5, none⟩ (.int .u8 2)).frozen? ⟨g, 6, none⟩ = false := s5.1.top.frozen 6
  have HK : Hid (RvM ((w.setCell ⟨g, 5, none⟩ (.int .u8 2)).setCell ⟨g, 6, none⟩ (.int .i64 (S.id : Nat))) g { S with role := 2, leader := S.id } A c V P ∧ Chg (fun b => b = g) w ((w.setCell ⟨g, 5, none⟩ (.int .u8 2)).setCell ⟨g, 6, none⟩ (.int .i64 (S.id : Nat)))) := Lib.hid ⟨s6.1, s5.2.trans s6.2⟩
  obtain ⟨l, hll⟩ : ∃ l, l = S.log.length := ⟨_, rfl⟩
  have HN := Lib.hid (And.intro hll (And.intro hok ht))
  rw [← hll] at hl
  clear hS hok ht s5 s6 hll
  go_enter Try.func72, Try.ntmps72
  go_wp2_with fail
  generalize (w.setCell ⟨g, 5, none⟩ (.int .u8 2)).setCell ⟨g, 6, none⟩ (.int .i64 (S.id : Nat)) = w1 at *
  clear c0 c5 c6 f5 f6 y0 y6 g6
  go_loopw [3] (fun s3 wr => ∃ k : Nat, s3 = .int .i64 (k : Nat) ∧ k ≤ 7 ∧ RvM wr g { S with role := 2, leader := S.id } A c V (peersTo (l + 1) k P) ∧ Chg (fun b => b = g) w wr) (fun s3 _ => 7 - (intOf s3).toNat)
  case atStart => exact ⟨0, rfl, by omega, HK.out.1, HK.out.2⟩
  case round =>
    obtain ⟨k, rfl, hk, hm, hch⟩ := hrel
    have HM := Lib.hid (And.intro hm hch)
    have k4 : wr.cell? ⟨g, 4, none⟩ = some (.slice A l c) := by rw [HN.out.1]; exact hm.c4
    clear hm hch
    by_cases hlt : k < 7
    · have d1 : decide ((k : Int) < 7) = true := decide_eq_true (by omega)
      have i0 : (0 : Int) ≤ (k : Int) := by omega
      have i7 : (k : Int) < 7 := by omega
      have hcp := HM.out.1.cp hlt
      obtain ⟨q0, j0⟩ : ∃ q, wr.cell? ⟨g, 15 + k * 2, none⟩ = some q := ⟨_, hcp.1⟩
      obtain ⟨q1, hq1⟩ : ∃ q, wr.cell? ⟨g, 15 + k * 2 + 1, none⟩ = some q := ⟨_, hcp.2⟩
      have e0 : wr.frozen? ⟨g, 15 + k * 2, none⟩ = false := HM.out.1.top.frozen _
      have hm1 := HM.out.1.setP (l + 1) 0 hlt
      rw [show ((l + 1 : Nat) : Int) = (l : Int) + 1 by omega, show (((0 : Nat)) : Int) = 0 by rfl] at hm1
      have j1 : (wr.setCell ⟨g, 15 + k * 2, none⟩ (.int .i64 ((l : Int) + 1))).cell? ⟨g, 15 + k * 2 + 1, none⟩ = some q1 := by exact (World.cell?_setCell_other (w := wr) (a := ⟨g, 15 + k * 2, none⟩) (b := ⟨g, 15 + k * 2 + 1, none⟩) (v := .int .i64 ((l : Int) + 1)) (by intro h; injection h with h1 h2; omega)).trans hq1
      have e1 : (wr.setCell ⟨g, 15 + k * 2, none⟩ (.int .i64 ((l : Int) + 1))).frozen? ⟨g, 15 + k * 2 + 1, none⟩ = false := (HM.out.1.top.set_ (15 + k * 2) (.int .i64 ((l : Int) + 1))).frozen _
      have HM1 := Lib.hid hm1
      clear hcp hm1
      go_wp2_with fail
      go_region
      go_wp2_with fail
      go_roundw
      case rel => exact ⟨k + 1, by go_num, by omega, HM1.out.1.drew, (HM.out.2.trans HM1.out.2).drewN 1⟩
      case measure => simp [intOf]; omega
    · have d1 : decide ((k : Int) < 7) = false := decide_eq_false (by omega)
      obtain rfl : k = 7 := by omega
      have hn7 := HN.out.2.1.n
      have hlw : ∀ W P', RvM W g { S with role := 2, leader := S.id } A c V P' → RvM W g S.lead1 A c V P' := fun W P' h => ⟨h.top, h.log, h.vl, h.pl⟩
      have HP1 : Hid (∀ k, k < S.n → (peersTo (l + 1) 7 P).getD k (0, 0) = (l + 1, 0)) := Lib.hid (fun k hk => peersTo_get _ _ _ _ (by omega) (by have h := HM.out.1.pl; rw [peersTo_length] at h; omega))
      have HNX : Hid (∀ k, k < S.n → S.lead1.nx.getD k 0 = l + 1 ∧ S.lead1.mt.getD k 0 = 0) := Lib.hid (fun k hk => ⟨by rw [HN.out.1]; exact setTo_get _ _ _ _ hk (by rw [HN.out.2.1.nxl]; omega), setTo_get _ _ _ _ hk (by rw [HN.out.2.1.mtl]; omega)⟩)
      generalize peersTo (l + 1) 7 P = P' at *
      have HL1 := Lib.hid (hlw wr P' HM.out.1)
      have HGD := Lib.hid (HN.out.2.1.lead2 HN.out.2.2)
      have HFIN : Hid (∀ A2 c2 w2, RvM w2 g S.lead2 A2 c2 V P' → Calls Try.prog 79 #[.pointer (some ⟨g, 0, none⟩)] w2 fun e w' => e = .returned (.tuple #[]) ∧ KeepsR w2 g A2 S.lead V P' w') := Lib.hid (fun A2 c2 w2 h => agrees_any S.lead2 g A2 c2 V P' w2 h HGD.out.toOk (fun k hk => by
        have e : S.lead2.n = S.n := by unfold Sv.lead2; split <;> rfl
        have e2 : S.lead2.mt = S.lead1.mt := by unfold Sv.lead2; split <;> rfl
        rw [e] at hk
        rw [HP1.out k hk, e2, (HNX.out k hk).2]))
      have HPL : Hid (∀ k, k < S.lead.n → P'.getD k (0, 0) = (S.lead.nx.getD k 0, S.lead.mt.getD k 0)) := Lib.hid (fun k hk => by
        have e : S.lead.n = S.n := ld_n S
        have e2 : S.lead.mt = S.lead1.mt := by unfold Sv.lead Sv.agree Sv.lead2; split <;> rfl
        have e3 : S.lead.nx = S.lead1.nx := by unfold Sv.lead Sv.agree Sv.lead2; split <;> rfl
        rw [e] at hk
        rw [HP1.out k hk, e2, e3, (HNX.out k hk).1, (HNX.out k hk).2])
      have HSD : Hid (∀ A3 c3 w3, RvM w3 g S.lead A3 c3 V P' → Calls Try.prog 71 #[.pointer (some ⟨g, 0, none⟩)] w3 (OutPost w3 S.lead.outs)) := Lib.hid (fun A3 c3 w3 h => by
        have hgl := HN.out.2.1.lead HN.out.2.2
        have hr := ld_role S
        exact appends_any S.lead g A3 c3 V P' w3 h hgl.n (fun k hk _ W hW => appendTo_any S.lead k g A3 c3 V P' W (h.below hW) (HPL.out k hk) hgl.len (by have := hgl.n; omega) (hgl.nx1 hr k hk) (hgl.nxm hr k hk)))
      have HRL : Hid (Rel S.lead V P') := Lib.hid ⟨fun h => absurd (h.symm.trans (ld_role S)) (by decide), fun _ => HPL.out⟩
      by_cases hl4 : l < 4096
      · have d4 : decide ((l : Int) < 4096) = true := decide_eq_true (by omega)
        have HL1' : Hid (l = S.lead1.log.length) := Lib.hid HN.out.1
        go_wp2_with fail
        have HF6 : Hid (∀ X, Below wr.heap.size wr X → (fun X => Hid (X.cell? ⟨g, 4, none⟩ = some (.slice A l c) ∧ X.cell? ⟨g, 2, none⟩ = some (.int .i64 S.lead1.term))) X) := Lib.hid (fun X hX => ⟨by have h := ((HL1.out).below hX).c4; rw [← HL1'.out] at h; exact h, ((HL1.out).below hX).c2⟩)
        have HB6 : Hid (Below wr.heap.size wr (wr.drew.alloc (.cells #[.int .i64 S.lead1.term, .string ⟨#[]⟩] 39))) := Lib.hid ((Below.refl _ _).drew.alloc (Nat.le_refl _) _)
        have HO6 : Hid ((wr.drew.alloc (.cells #[.int .i64 S.lead1.term, .string ⟨#[]⟩] 39)).ownsRow 0 39 2 (.slice A l c) l (rowOf ecell S.lead1.log)) := by rw [HL1'.out]; exact Lib.hid (own_below (HL1.out).log HB6.out)
        have HR6 : Hid (Reads (wr.drew.alloc (.cells #[.int .i64 S.lead1.term, .string ⟨#[]⟩] 39)) (wr.heap.size + 1) 2 (some ⟨wr.heap.size, 0, none⟩) 1 (rowOf ecell [⟨S.lead1.term, ⟨#[]⟩⟩])) := by
          refine Lib.hid ⟨rfl, fun _ => ⟨_, rfl, Nat.lt_succ_self _, fun j u hu => ?_⟩⟩
          have h := (Blk.new wr.drew 39 #[.int .i64 S.lead1.term, .string ⟨#[]⟩]).cell j
          rw [addr_add, Nat.zero_add]
          exact h.trans (by simpa [rowOf, ecell] using hu)
        refine wp_region_plan (.q 0 (.q 1 (.q 2 (.q 3 (.q 4 (.q 5 (.q 6 (.q 7 (.q 8 (.q 9 (.q 10 (.q 11 (.a1 12 (.a1 13 (.q 14 (.q 15 (.q 16 (.a1 17 .fin)))))))))))))))))) 17 (fun X => Hid (X.cell? ⟨g, 4, none⟩ = some (.slice A l c) ∧ X.cell? ⟨g, 2, none⟩ = some (.int .i64 S.lead1.term))) (by kernel_rfl) rfl (by kernel_rfl) (HF6.out _ (Below.refl _ _).drew) ?_
        refine wpPlan_q rfl rfl rfl ?_; intro K hK
        go_big_quiet_op
        first | go_big_quiet_on | (refine ⟨_, fun _ _ => rfl, ?_⟩; go_big_quiet_on)
        refine wpPlan_q rfl rfl rfl ?_; intro K hK
        go_big_quiet_op
        first | go_big_quiet_on | (refine ⟨_, fun _ _ => rfl, ?_⟩; go_big_quiet_on)
        refine wpPlan_q rfl rfl rfl ?_; intro K hK
        go_big_quiet_op
        first | go_big_quiet_on | (refine ⟨_, fun _ _ => rfl, ?_⟩; go_big_quiet_on)
        refine wpPlan_q rfl rfl rfl ?_; intro K hK
        go_big_quiet_op
        first | go_big_quiet_on | (refine ⟨_, fun _ _ => rfl, ?_⟩; go_big_quiet_on)
        refine wpPlan_q rfl rfl rfl ?_; intro K hK
        go_big_quiet_op
        first | go_big_quiet_on | (refine ⟨_, fun _ _ => rfl, ?_⟩; go_big_quiet_on)
        refine wpPlan_q rfl rfl rfl ?_; intro K hK
        refine ⟨(.slice A l c), fun W hW => ?_, ?_⟩
        · have q0 := hW.out.1
          unfold Oper.quietAt Oper.quietUpon
          simp [go_sem, q0]
        refine hK _ ?_
        clear hK K
        try simp only [Act.put, List.setIfInBounds_toArray, List.set_cons_succ, List.set_cons_zero]
        refine wpPlan_q rfl rfl rfl ?_; intro K hK
        go_big_quiet_op
        first | go_big_quiet_on | (refine ⟨_, fun _ _ => rfl, ?_⟩; go_big_quiet_on)
        refine wpPlan_q rfl rfl rfl ?_; intro K hK
        go_big_quiet_op
        first | go_big_quiet_on | (refine ⟨_, fun _ _ => rfl, ?_⟩; go_big_quiet_on)
        refine wpPlan_q rfl rfl rfl ?_; intro K hK
        go_big_quiet_op
        first | go_big_quiet_on | (refine ⟨_, fun _ _ => rfl, ?_⟩; go_big_quiet_on)
        refine wpPlan_q rfl rfl rfl ?_; intro K hK
        go_big_quiet_op
        first | go_big_quiet_on | (refine ⟨_, fun _ _ => rfl, ?_⟩; go_big_quiet_on)
        refine wpPlan_q rfl rfl rfl ?_; intro K hK
        refine ⟨(.int .i64 S.lead1.term), fun W hW => ?_, ?_⟩
        · have q0 := hW.out.2
          unfold Oper.quietAt Oper.quietUpon
          simp [go_sem, q0]
        refine hK _ ?_
        clear hK K
        try simp only [Act.put, List.setIfInBounds_toArray, List.set_cons_succ, List.set_cons_zero]
        refine wpPlan_q rfl rfl rfl ?_; intro K hK
        go_big_quiet_op
        first | go_big_quiet_on | (refine ⟨_, fun _ _ => rfl, ?_⟩; go_big_quiet_on)
        refine wpPlan_act true rfl rfl rfl ?_; intro K hK
        go_simp
        refine hK _ _ (fun _ => HF6.out _ HB6.out) ?_
        clear hK K
        try simp only [Act.put, List.setIfInBounds_toArray, List.set_cons_succ, List.set_cons_zero]
        refine wpPlan_act true rfl rfl rfl ?_; intro K hK
        refine wp_app_ents (.tmp 43) (.tmp 50) rfl 0 l 1 c 1 (wr.heap.size + 1) A (some ⟨wr.heap.size, 0, none⟩) S.lead1.log [⟨S.lead1.term, ⟨#[]⟩⟩] rfl HO6.out rfl HR6.out (by omega) (Nat.zero_le _) ?_
        intro A6 c6 w6 ho6 hg6 hv6
        have HT6 : Hid (Blk w6 g 101 (rvCells S.lead1 A c V P').toArray) := Lib.hid ((HL1.out).grown_top HB6.out hg6 HL1'.out)
        have H6 := Lib.hid (And.intro ho6 (And.intro hg6 hv6))
        clear ho6 hg6 hv6
        refine hK _ _ (fun _ => Lib.hid ⟨by have h := HT6.out.cell 4; rw [h]; rw [HL1'.out]; rfl, HT6.out.cell 2⟩) ?_
        clear hK K
        try simp only [Act.put, List.setIfInBounds_toArray, List.set_cons_succ, List.set_cons_zero]
        refine wpPlan_q rfl rfl rfl ?_; intro K hK
        go_big_quiet_op
        first | go_big_quiet_on | (refine ⟨_, fun _ _ => rfl, ?_⟩; go_big_quiet_on)
        refine wpPlan_q rfl rfl rfl ?_; intro K hK
        go_big_quiet_op
        first | go_big_quiet_on | (refine ⟨_, fun _ _ => rfl, ?_⟩; go_big_quiet_on)
        refine wpPlan_q rfl rfl rfl ?_; intro K hK
        go_big_quiet_op
        first | go_big_quiet_on | (refine ⟨_, fun _ _ => rfl, ?_⟩; go_big_quiet_on)
        refine wpPlan_act false rfl rfl rfl ?_; intro K hK
        have j4 : w6.cell? ⟨g, 4, none⟩ = some (.slice A S.lead1.log.length c) := HT6.out.cell 4
        have f4 : w6.frozen? ⟨g, 4, none⟩ = false := HT6.out.frozen 4
        go_simp
        refine hK _ _ (fun h => by cases h) ?_
        clear hK K
        try simp only [Act.put, List.setIfInBounds_toArray, List.set_cons_succ, List.set_cons_zero]
        refine wpPlan_fin ?_
        have hk6 := (HL1.out).grow HB6.out (by have h := H6.out.2.1; rw [HL1'.out] at h; exact h) H6.out.1 (by have h := H6.out.2.2; rw [show (Value.slice A l c).ownBlock = (Value.slice A S.lead1.log.length c).ownBlock by rw [HL1'.out]] at h; exact h) (by rw [List.length_append, List.length_singleton, ← HL1'.out])
        clear HF6 HB6 HO6 HR6 HT6 H6
        obtain ⟨A2, c2, hm2, hc2, ht2⟩ := hk6
        have HL2 : Hid (RvM (w6.setCell ⟨g, 4, none⟩ (.slice A6 (l + 1) c6)) g S.lead2 A2 c2 V P' ∧ Chg (SvT g A) w (w6.setCell ⟨g, 4, none⟩ (.slice A6 (l + 1) c6)) ∧ ∀ a, A2 = some a → (∃ a0, A = some a0 ∧ a.block = a0.block) ∨ w.heap.size ≤ a.block) := by
          have e : S.lead2 = { S.lead1 with log := S.lead1.log ++ [⟨S.lead1.term, ⟨#[]⟩⟩] } := by unfold Sv.lead2; rw [if_pos (by rw [← HN.out.1]; exact hl4)]; rfl
          rw [e]
          exact Lib.hid ⟨hm2, (HM.out.2.mono (fun b hb => .inl hb)).trans hc2, fun a ha => (ht2 a ha).imp id (fun h => Nat.le_trans HM.out.2.size h)⟩
        clear hm2 hc2 ht2
        generalize w6.setCell ⟨g, 4, none⟩ (.slice A6 (l + 1) c6) = w7 at *
        go_wp2_with fail
        refine (HFIN.out A2 c2 w7 HL2.out.1).mono ?_
        rintro e w3 ⟨rfl, hk3⟩
        obtain ⟨A3, c3, hm3, hc3, ht3⟩ := KeepsR.trans HL2.out.2.1 HL2.out.2.2 hk3
        have H3 := Lib.hid (And.intro hm3 (And.intro hc3 ht3))
        clear hm3 hc3 ht3 hk3
        go_wp2_with fail
        refine (HSD.out A3 c3 w3 H3.out.1).mono ?_
        rintro e w4 hp4
        have HOUT : Hid (OutR w g A S.lead S.lead.outs e w4) := Lib.hid (OutR.of ⟨A3, c3, H3.out.1, H3.out.2.1, H3.out.2.2⟩ HRL.out hp4)
        obtain ⟨D, d, rfl, _, _⟩ := hp4
        generalize S.lead.outs = ol at *
        generalize ol.length = oll at HOUT ⊢
        go_wp2_with fail
        go_ret
        exact HOUT.out
      · have d4 : decide ((l : Int) < 4096) = false := decide_eq_false (by omega)
        have HL2 : Hid (RvM wr g S.lead2 A c V P') := by
          have e : S.lead2 = S.lead1 := by unfold Sv.lead2; rw [if_neg (by rw [← HN.out.1]; exact hl4)]
          rw [e]
          exact HL1
        go_wp2_with fail
        refine (HFIN.out A c wr HL2.out).mono ?_
        rintro e w3 ⟨rfl, hk3⟩
        obtain ⟨A3, c3, hm3, hc3, ht3⟩ := KeepsR.trans (HM.out.2.mono (fun b hb => .inl hb)) (fun a ha => .inl ⟨a, ha, rfl⟩) hk3
        have H3 := Lib.hid (And.intro hm3 (And.intro hc3 ht3))
        clear hm3 hc3 ht3 hk3
        go_wp2_with fail
        refine (HSD.out A3 c3 w3 H3.out.1).mono ?_
        rintro e w4 hp4
        have HOUT : Hid (OutR w g A S.lead S.lead.outs e w4) := Lib.hid (OutR.of ⟨A3, c3, H3.out.1, H3.out.2.1, H3.out.2.2⟩ HRL.out hp4)
        obtain ⟨D, d, rfl, _, _⟩ := hp4
        generalize S.lead.outs = ol at *
        generalize ol.length = oll at HOUT ⊢
        go_wp2_with fail
        go_ret
        exact HOUT.out
end Go.Proofs.Ytjodglepaeomiaa
