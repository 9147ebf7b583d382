/- Contract of the document's Propose. -/
import Derived.Test.YtjodglepaeomiaaRak
namespace Go.Proofs.Ytjodglepaeomiaa
open Go.RowKit

set_option maxRecDepth 100000 in
set_option maxHeartbeats 8000000 in
theorem propose_r (S : Sv) (d : ByteArray) (g : Nat) (A : Option Addr) (c : Nat) (V : List Bool) (P : List (Nat × Nat)) (w : World) (hS : RvM w g S A c V P) (hr : Rel S V P) (hok : S.Good) :
    Calls Try.prog 62 #[.pointer (some ⟨g, 0, none⟩), .string d] w fun e w' => e = .returned (.tuple #[.int .i64 ((S.propose d).2.1 : Nat), .int .i64 (S.propose d).2.2]) ∧ KeepsR w g A (S.propose d).1 V P w' ∧ Rel (S.propose d).1 V P := by
  have HQ := Lib.hid (show S.propose d = if S.role ≠ 2 then (S, 0, 270) else if 65536 < d.size then (S, 0, 2) else if S.log.length = 4096 then (S, 0, 7) else ((S.put d).agree, S.log.length + 1, 0) from rfl)
  have HS := Lib.hid hS
  have HK := Lib.hid (And.intro hok hr)
  have c5 := hS.c5
  obtain ⟨l, hll⟩ : ∃ l, l = S.log.length := ⟨_, rfl⟩
  have hl : l ≤ 4096 := by rw [hll]; exact hok.len
  have c4 : w.cell? ⟨g, 4, none⟩ = some (.slice A l c) := by rw [hll]; exact hS.c4
  have HLL := Lib.hid hll
  have HKP : Hid (KeepsR w g A S V P w) := Lib.hid hS.keeps
  clear hS hok hr hll
  go_enter Try.func62, Try.ntmps62
  by_cases hr : S.role = 2
  · have b1 : ((S.role : Int) != 2) = false := by rw [hr]; rfl
    by_cases hd : 65536 < d.size
    · have d1 : decide ((65536 : Int) < (d.size : Int)) = true := decide_eq_true (by omega)
      have HQ1 : Hid (S.propose d = (S, 0, 2)) := Lib.hid (by rw [HQ.out, if_neg (fun h => h hr), if_pos hd])
      clear HQ
      go_wp2_with fail
      go_ret2
      rw [HQ1.out]
      exact ⟨rfl, HKP.out, HK.out.2⟩
    · have d1 : decide ((65536 : Int) < (d.size : Int)) = false := decide_eq_false (by omega)
      by_cases hl4 : l = 4096
      · have b2 : decide ((4096 : Int) ≤ (l : Int)) = true := decide_eq_true (by omega)
        have HQ1 : Hid (S.propose d = (S, 0, 7)) := Lib.hid (by rw [HQ.out, if_neg (fun h => h hr), if_neg hd, if_pos (by rw [← HLL.out]; exact hl4)])
        clear HQ hl4
        go_wp2_with fail
        go_ret2
        rw [HQ1.out]
        exact ⟨rfl, HKP.out, HK.out.2⟩
      · have b2 : decide ((4096 : Int) ≤ (l : Int)) = false := decide_eq_false (by omega)
        have HQ1 : Hid (S.propose d = ((S.put d).agree, S.log.length + 1, 0)) := Lib.hid (by rw [HQ.out, if_neg (fun h => h hr), if_neg hd, if_neg (by rw [← HLL.out]; exact hl4)])
        have HG : Hid ((S.put d).Good ∧ Rel (S.put d).agree V P ∧ ∀ k, k < S.n → (P.getD k (0, 0)).2 = S.mt.getD k 0) := Lib.hid ⟨HK.out.1.put (by rw [← HLL.out]; omega) (by rw [hr]; decide) (by omega), ⟨HK.out.2.v, HK.out.2.p⟩, fun k hk => by rw [HK.out.2.p hr k hk]⟩
        clear HQ
        go_wp2_with fail
        have HF6 : Hid (∀ X, Below w.heap.size w X → (fun X => Hid (X.cell? ⟨g, 4, none⟩ = some (.slice A l c) ∧ X.cell? ⟨g, 2, none⟩ = some (.int .i64 S.term))) X) := Lib.hid (fun X hX => ⟨by have h := ((HS.out).below hX).c4; rw [← HLL.out] at h; exact h, ((HS.out).below hX).c2⟩)
        have HB6 : Hid (Below w.heap.size w (w.drew.alloc (.cells #[.int .i64 S.term, .string d] 39))) := Lib.hid ((Below.refl _ _).drew.alloc (Nat.le_refl _) _)
        have HO6 : Hid ((w.drew.alloc (.cells #[.int .i64 S.term, .string d] 39)).ownsRow 0 39 2 (.slice A l c) l (rowOf ecell S.log)) := by rw [HLL.out]; exact Lib.hid (own_below (HS.out).log HB6.out)
        have HR6 : Hid (Reads (w.drew.alloc (.cells #[.int .i64 S.term, .string d] 39)) (w.heap.size + 1) 2 (some ⟨w.heap.size, 0, none⟩) 1 (rowOf ecell [⟨S.term, d⟩])) := by
          refine Lib.hid ⟨rfl, fun _ => ⟨_, rfl, Nat.lt_succ_self _, fun j u hu => ?_⟩⟩
          have h := (Blk.new w.drew 39 #[.int .i64 S.term, .string d]).cell j
          rw [addr_add, Nat.zero_add]
          exact h.trans (by simpa [rowOf, ecell] using hu)
        refine wp_region_plan (.q 0 (.q 1 (.q 2 (.q 3 (.q 4 (.q 5 (.q 6 (.q 7 (.q 8 (.q 9 (.q 10 (.q 11 (.q 12 (.a1 13 (.a1 14 (.q 15 (.q 16 (.q 17 (.a1 18 .fin))))))))))))))))))) 18 (fun X => Hid (X.cell? ⟨g, 4, none⟩ = some (.slice A l c) ∧ X.cell? ⟨g, 2, none⟩ = some (.int .i64 S.term))) (by kernel_rfl) rfl (by kernel_rfl) (HF6.out _ (Below.refl _ _).drew) ?_
        refine wpPlan_q rfl rfl rfl ?_; intro K hK
        go_big_quiet_op
        first | go_big_quiet_on | (refine ⟨_, fun _ _ => rfl, ?_⟩; go_big_quiet_on)
        refine wpPlan_q rfl rfl rfl ?_; intro K hK
        go_big_quiet_op
        first | go_big_quiet_on | (refine ⟨_, fun _ _ => rfl, ?_⟩; go_big_quiet_on)
        refine wpPlan_q rfl rfl rfl ?_; intro K hK
        go_big_quiet_op
        first | go_big_quiet_on | (refine ⟨_, fun _ _ => rfl, ?_⟩; go_big_quiet_on)
        refine wpPlan_q rfl rfl rfl ?_; intro K hK
        go_big_quiet_op
        first | go_big_quiet_on | (refine ⟨_, fun _ _ => rfl, ?_⟩; go_big_quiet_on)
        refine wpPlan_q rfl rfl rfl ?_; intro K hK
        go_big_quiet_op
        first | go_big_quiet_on | (refine ⟨_, fun _ _ => rfl, ?_⟩; go_big_quiet_on)
        refine wpPlan_q rfl rfl rfl ?_; intro K hK
        refine ⟨(.slice A l c), fun W hW => ?_, ?_⟩
        · have q0 := hW.out.1
          unfold Oper.quietAt Oper.quietUpon
          simp [go_sem, q0]
        refine hK _ ?_
        clear hK K
        try simp only [Act.put, List.setIfInBounds_toArray, List.set_cons_succ, List.set_cons_zero]
        refine wpPlan_q rfl rfl rfl ?_; intro K hK
        go_big_quiet_op
        first | go_big_quiet_on | (refine ⟨_, fun _ _ => rfl, ?_⟩; go_big_quiet_on)
        refine wpPlan_q rfl rfl rfl ?_; intro K hK
        go_big_quiet_op
        first | go_big_quiet_on | (refine ⟨_, fun _ _ => rfl, ?_⟩; go_big_quiet_on)
        refine wpPlan_q rfl rfl rfl ?_; intro K hK
        go_big_quiet_op
        first | go_big_quiet_on | (refine ⟨_, fun _ _ => rfl, ?_⟩; go_big_quiet_on)
        refine wpPlan_q rfl rfl rfl ?_; intro K hK
        go_big_quiet_op
        first | go_big_quiet_on | (refine ⟨_, fun _ _ => rfl, ?_⟩; go_big_quiet_on)
        refine wpPlan_q rfl rfl rfl ?_; intro K hK
        refine ⟨(.int .i64 S.term), fun W hW => ?_, ?_⟩
        · have q0 := hW.out.2
          unfold Oper.quietAt Oper.quietUpon
          simp [go_sem, q0]
        refine hK _ ?_
        clear hK K
        try simp only [Act.put, List.setIfInBounds_toArray, List.set_cons_succ, List.set_cons_zero]
        refine wpPlan_q rfl rfl rfl ?_; intro K hK
        go_big_quiet_op
        first | go_big_quiet_on | (refine ⟨_, fun _ _ => rfl, ?_⟩; go_big_quiet_on)
        refine wpPlan_q rfl rfl rfl ?_; intro K hK
        go_big_quiet_op
        first | go_big_quiet_on | (refine ⟨_, fun _ _ => rfl, ?_⟩; go_big_quiet_on)
        refine wpPlan_act true rfl rfl rfl ?_; intro K hK
        go_simp
        refine hK _ _ (fun _ => HF6.out _ HB6.out) ?_
        clear hK K
        try simp only [Act.put, List.setIfInBounds_toArray, List.set_cons_succ, List.set_cons_zero]
        refine wpPlan_act true rfl rfl rfl ?_; intro K hK
        refine wp_app_ents (.tmp 26) (.tmp 34) rfl 0 l 1 c 1 (w.heap.size + 1) A (some ⟨w.heap.size, 0, none⟩) S.log [⟨S.term, d⟩] rfl HO6.out rfl HR6.out (by omega) (Nat.zero_le _) ?_
        intro A6 c6 w6 ho6 hg6 hv6
        have HT6 : Hid (Blk w6 g 101 (rvCells S A c V P).toArray) := Lib.hid ((HS.out).grown_top HB6.out hg6 HLL.out)
        have H6 := Lib.hid (And.intro ho6 (And.intro hg6 hv6))
        clear ho6 hg6 hv6
        refine hK _ _ (fun _ => Lib.hid ⟨by have h := HT6.out.cell 4; rw [h]; rw [HLL.out]; rfl, HT6.out.cell 2⟩) ?_
        clear hK K
        try simp only [Act.put, List.setIfInBounds_toArray, List.set_cons_succ, List.set_cons_zero]
        refine wpPlan_q rfl rfl rfl ?_; intro K hK
        go_big_quiet_op
        first | go_big_quiet_on | (refine ⟨_, fun _ _ => rfl, ?_⟩; go_big_quiet_on)
        refine wpPlan_q rfl rfl rfl ?_; intro K hK
        go_big_quiet_op
        first | go_big_quiet_on | (refine ⟨_, fun _ _ => rfl, ?_⟩; go_big_quiet_on)
        refine wpPlan_q rfl rfl rfl ?_; intro K hK
        go_big_quiet_op
        first | go_big_quiet_on | (refine ⟨_, fun _ _ => rfl, ?_⟩; go_big_quiet_on)
        refine wpPlan_act false rfl rfl rfl ?_; intro K hK
        have j4 : w6.cell? ⟨g, 4, none⟩ = some (.slice A S.log.length c) := HT6.out.cell 4
        have f4 : w6.frozen? ⟨g, 4, none⟩ = false := HT6.out.frozen 4
        go_simp
        refine hK _ _ (fun h => by cases h) ?_
        clear hK K
        try simp only [Act.put, List.setIfInBounds_toArray, List.set_cons_succ, List.set_cons_zero]
        refine wpPlan_fin ?_
        have hk6 := (HS.out).grow HB6.out (by have h := H6.out.2.1; rw [HLL.out] at h; exact h) H6.out.1 (by have h := H6.out.2.2; rw [show (Value.slice A l c).ownBlock = (Value.slice A S.log.length c).ownBlock by rw [HLL.out]] at h; exact h) (by rw [List.length_append, List.length_singleton, ← HLL.out])
        clear HF6 HB6 HO6 HR6 HT6 H6
        obtain ⟨A2, c2, hm2, hc2, ht2⟩ := hk6
        have H2 := Lib.hid (And.intro hm2 (And.intro hc2 ht2))
        clear hm2 hc2 ht2
        generalize w6.setCell ⟨g, 4, none⟩ (.slice A6 (l + 1) c6) = w7 at *
        go_wp2_with fail
        refine (agrees_any (S.put d) g A2 c2 V P w7 H2.out.1 HG.out.1.toOk HG.out.2.2).mono ?_
        rintro e w3 ⟨rfl, hk3⟩
        obtain ⟨A3, c3, hm3, hc3, ht3⟩ := KeepsR.trans H2.out.2.1 H2.out.2.2 hk3
        have HKL : Hid (KeepsR w g A (S.put d).agree V P w3) := Lib.hid ⟨A3, c3, hm3, hc3, ht3⟩
        have k4 : w3.cell? ⟨g, 4, none⟩ = some (.slice A3 (l + 1) c3) := by
          have h := hm3.c4
          have e : (S.put d).agree.log.length = l + 1 := by show (S.log ++ [_]).length = _; rw [List.length_append, List.length_singleton, ← HLL.out]
          rw [e] at h
          exact h
        clear hm3 hc3 ht3 hk3
        go_wp2_with fail
        go_ret2
        rw [HQ1.out, ← HLL.out]
        exact ⟨rfl, HKL.out, HG.out.2.1⟩
  · have b1 : ((S.role : Int) != 2) = true := by simp; omega
    have HQ1 : Hid (S.propose d = (S, 0, 270)) := Lib.hid (by rw [HQ.out, if_pos hr])
    clear HQ
    go_wp2_with fail
    go_ret2
    rw [HQ1.out]
    exact ⟨rfl, HKP.out, HK.out.2⟩
end Go.Proofs.Ytjodglepaeomiaa
