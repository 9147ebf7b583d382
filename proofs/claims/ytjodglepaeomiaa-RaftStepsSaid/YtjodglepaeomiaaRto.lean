/- Contract of the document's told. -/
import Derived.Test.YtjodglepaeomiaaFul
namespace Go.Proofs.Ytjodglepaeomiaa
open Go.RowKit

theorem Sv.Good.has {S : Sv} (h : S.Good) (hr : S.role = 2) {k i : Nat} (hk : k < S.n) (hil : i ≤ S.log.length) : (S.has k i).Good := by
  have hn := h.n
  have hl := h.len
  have hk7 : k < S.nx.length := by rw [h.nxl]; omega
  have hk7' : k < S.mt.length := by rw [h.mtl]; omega
  have b1 := h.mtm hr _ hk
  refine ⟨⟨h.id, h.n, h.t0, h.t1, h.v0, h.v1, h.len, h.log, h.role, h.l0, h.l1, h.com, h.vot, by show (List.set _ _ _).length = 7; rw [List.length_set]; exact h.nxl, by show (List.set _ _ _).length = 7; rw [List.length_set]; exact h.mtl, ?_, ?_, ?_, ?_, ?_⟩, h.t2⟩
  · intro k; show (List.set _ _ _).getD k 0 ≤ _; rw [getD_set _ _ _ _ hk7]; have := h.nx4 k; split <;> omega
  · intro k; show (List.set _ _ _).getD k 0 ≤ _; rw [getD_set _ _ _ _ hk7']; have := h.mt4 k; split <;> omega
  · intro _ k hk; show 1 ≤ (List.set _ _ _).getD k 0; rw [getD_set _ _ _ _ hk7]; have := h.nx1 hr k hk; split <;> omega
  · intro _ k hk; show (List.set _ _ _).getD k 0 ≤ S.log.length + 1; rw [getD_set _ _ _ _ hk7]; have := h.nxm hr k hk; split <;> omega
  · intro _ k hk; show (List.set _ _ _).getD k 0 ≤ S.log.length; rw [getD_set _ _ _ _ hk7']; have := h.mtm hr k hk; split <;> omega
theorem Rel.has {S : Sv} {V : List Bool} {P : List (Nat × Nat)} (h : Rel S V P) (hok : S.Good) (hr : S.role = 2) {k i v : Nat} (hk : k < S.n) (hP : P.length = 7) (hv : max (S.mt.getD k 0) i = v) : Rel (S.has k i) V (P.set k (v + 1, v)) := by
  have hk7 : k < 7 := by have := hok.n; omega
  refine ⟨fun e => absurd ((show S.role = 1 from e).symm.trans hr) (by decide), fun _ j hj => ?_⟩
  show _ = ((S.nx.set k (max (S.mt.getD k 0) i + 1)).getD j 0, (S.mt.set k (max (S.mt.getD k 0) i)).getD j 0)
  rw [getD_set _ _ _ _ (by rw [hok.nxl]; exact hk7), getD_set _ _ _ _ (by rw [hok.mtl]; exact hk7), hv]
  by_cases hjk : j = k
  · rw [if_pos hjk, if_pos hjk, hjk, List.getD_eq_getElem?_getD, List.getElem?_set_self (by rw [hP]; exact hk7)]; rfl
  · rw [if_neg hjk, if_neg hjk, List.getD_eq_getElem?_getD, List.getElem?_set_ne (fun e => hjk e.symm), ← List.getD_eq_getElem?_getD, h.p hr j hj]
theorem OutR.sent {w w4 w5 w6 : World} {g c2 d : Nat} {A E2 D : Option Addr} {S' : Sv} {V' : List Bool} {P' : List (Nat × Nat)} {m : Mg} (k : KeepsR w g A S' V' P' w4) (hr : Rel S' V' P') (ho : w5.ownsRow w4.heap.size 39 2 (.slice E2 m.ents.length c2) m.ents.length (rowOf ecell m.ents)) (hb : Below w4.heap.size w4 w5)
    (hg : (w5.alloc (mbox E2 c2 m)).grownBy w6 (Value.slice none 0 0).ownBlock) (ho6 : w6.ownsRow w5.heap.size 34 9 (.slice D (0 + 1) d) (0 + 1) ([] ++ xcell (m, E2, c2))) :
    OutR w g A S' [m] (.returned (.slice D 1 d)) w6 := by
  have hb6 : Below w5.heap.size w5 w6 := ((Below.refl w5.heap.size w5).alloc (Nat.le_refl _) _).grown hg (by simp) (fun r hr => by cases hr)
  exact .ans k hr (MsR.one (x := (m, E2, c2)) (own_at (by simpa [rowOf] using ho6) (fun g hg => Nat.le_trans hb.size (World.ownsRow.lt ho6 g hg).1)) (own_below ho hb6)) (hb.trans (hb6.mono hb.size))

set_option maxRecDepth 100000 in
set_option maxHeartbeats 16000000 in
theorem told_r (S : Sv) (m : Mg) (g k i : Nat) (A E : Option Addr) (cs c : Nat) (V : List Bool) (P : List (Nat × Nat)) (w : World) (hS : RvM w g S A cs V P) (hr : Rel S V P) (hok : S.Good) (hf : m.frm = (k : Nat)) (hk : k < S.n) (hi : m.index = (i : Nat)) (hi9 : i ≤ 4096) :
    Calls Try.prog 78 #[.pointer (some ⟨g, 0, none⟩), .agg (mcell E c m).toArray] w (OutR w g A (S.told m).1 (S.told m).2) := by
  have HK := Lib.hid (And.intro hok (And.intro hr hk))
  have HQ := Lib.hid (show S.told m = (if S.role ≠ 2 ∨ m.term ≠ S.term ∨ (m.ok = true ∧ (S.log.length : Int) < m.index) then (S, [])
    else if m.ok = false then (S.back m.frm.toNat m.index.toNat, [(S.back m.frm.toNat m.index.toNat).send m.frm.toNat])
    else if S.log.length < max (S.mt.getD m.frm.toNat 0) m.index.toNat + 1 then ((S.has m.frm.toNat m.index.toNat).agree, [])
    else ((S.has m.frm.toNat m.index.toNat).agree, [(S.has m.frm.toNat m.index.toNat).agree.send m.frm.toNat])) from rfl)
  obtain ⟨S', ms, hq⟩ : ∃ (S' : Sv) (ms : List Mg), S.told m = (S', ms) := ⟨_, _, rfl⟩
  rw [hq] at HQ ⊢
  clear hq
  dsimp only
  obtain ⟨mk, frm, to, term, index, logTerm, ents, commit, mok⟩ := m
  dsimp only [mcell] at HQ hf hi ⊢
  subst hf
  subst hi
  rw [Int.toNat_natCast, Int.toNat_natCast] at HQ
  generalize ents.length = n at *
  have HBX : Hid (Below w.heap.size w (w.alloc (.cells #[.int .u8 (mk : Nat), .int .i64 (k : Nat), .int .i64 to, .int .i64 term, .int .i64 (i : Nat), .int .i64 logTerm, .slice E n c, .int .i64 commit, .bool mok] 34)) ∧ Blk (w.alloc (.cells #[.int .u8 (mk : Nat), .int .i64 (k : Nat), .int .i64 to, .int .i64 term, .int .i64 (i : Nat), .int .i64 logTerm, .slice E n c, .int .i64 commit, .bool mok] 34)) w.heap.size 34 #[.int .u8 (mk : Nat), .int .i64 (k : Nat), .int .i64 to, .int .i64 term, .int .i64 (i : Nat), .int .i64 logTerm, .slice E n c, .int .i64 commit, .bool mok]) := ⟨(Below.refl _ w).alloc (Nat.le_refl _) _, Blk.new _ _ _⟩
  have hsz : (w.alloc (.cells #[.int .u8 (mk : Nat), .int .i64 (k : Nat), .int .i64 to, .int .i64 term, .int .i64 (i : Nat), .int .i64 logTerm, .slice E n c, .int .i64 commit, .bool mok] 34)).heap.size = w.heap.size + 1 := by simp
  have HS := Lib.hid (hS.below HBX.out.1)
  have hbg : ¬ w.heap.size = g := by have := hS.lt; omega
  have k7 : k < 7 := by have := hok.n; omega
  obtain ⟨l, hll⟩ : ∃ l, l = S.log.length := ⟨_, rfl⟩
  obtain ⟨mt, hmt⟩ : ∃ z, z = S.mt.getD k 0 := ⟨_, rfl⟩
  obtain ⟨nx, hnx⟩ : ∃ z, z = S.nx.getD k 0 := ⟨_, rfl⟩
  have HN := Lib.hid (And.intro hll (And.intro hmt hnx))
  have hl : l ≤ 4096 := by rw [hll]; exact hok.len
  have hmt9 : mt ≤ 4096 := by rw [hmt]; exact hok.mt4 k
  have hnx9 : nx ≤ 4097 := by rw [hnx]; exact hok.nx4 k
  rw [← hll, ← hmt] at HQ
  have HOLD : Hid (∀ b, SvT g A b → b < w.heap.size) := Lib.hid (fun b hb => hS.ltT hb)
  clear hS hok hr hk hll hmt hnx
  go_enter Try.func78, Try.ntmps78
  go_wp2_with fail
  generalize w.alloc (.cells #[.int .u8 (mk : Nat), .int .i64 (k : Nat), .int .i64 to, .int .i64 term, .int .i64 (i : Nat), .int .i64 logTerm, .slice E n c, .int .i64 commit, .bool mok] 34) = w0 at *
  have x1 : w0.cell? ⟨w.heap.size, 1, none⟩ = some (.int .i64 (k : Nat)) := HBX.out.2.cell 1
  have x3 : w0.cell? ⟨w.heap.size, 3, none⟩ = some (.int .i64 term) := HBX.out.2.cell 3
  have x4 : w0.cell? ⟨w.heap.size, 4, none⟩ = some (.int .i64 (i : Nat)) := HBX.out.2.cell 4
  have x8 : w0.cell? ⟨w.heap.size, 8, none⟩ = some (.bool mok) := HBX.out.2.cell 8
  have c2 := HS.out.c2
  have c5 := HS.out.c5
  have ki : (k : Int) < 7 := by omega
  have ki0 : (0 : Int) ≤ (k : Int) := by omega
  by_cases hr : S.role = 2
  · have b1 : ((S.role : Int) != 2) = false := by rw [hr]; rfl
    have HPK : Hid (P.getD k (0, 0) = (nx, mt)) := Lib.hid (by rw [HK.out.2.1.p hr k HK.out.2.2, ← HN.out.2.1, ← HN.out.2.2])
    by_cases ht : term = S.term
    · have b2 : (term != S.term) = false := by simp [ht]
      go_quiet (fail)
      have HB1 : Hid (Below w0.heap.size w0 (w0.drewN nq)) := Lib.hid (below_drewN (Below.refl _ _) nq)
      generalize w0.drewN nq = w1 at *
      have HS1 : Hid (RvM w1 g S A cs V P ∧ Blk w1 w.heap.size 34 #[.int .u8 (mk : Nat), .int .i64 (k : Nat), .int .i64 to, .int .i64 term, .int .i64 (i : Nat), .int .i64 logTerm, .slice E n c, .int .i64 commit, .bool mok] ∧ Below w.heap.size w w1) := Lib.hid ⟨HS.out.below HB1.out, HBX.out.2.below HB1.out HBX.out.2.lt, HBX.out.1.trans (HB1.out.mono HBX.out.1.size)⟩
      have cp := HS1.out.1.cp k7
      rw [HPK.out] at cp
      obtain ⟨p0, p1⟩ := cp
      dsimp only at p0 p1
      have r1 : w1.cell? ⟨w.heap.size, 1, none⟩ = some (.int .i64 (k : Nat)) := HS1.out.2.1.cell 1
      have r4 : w1.cell? ⟨w.heap.size, 4, none⟩ = some (.int .i64 (i : Nat)) := HS1.out.2.1.cell 4
      have r8 : w1.cell? ⟨w.heap.size, 8, none⟩ = some (.bool mok) := HS1.out.2.1.cell 8
      clear x1 x3 x4 x8 c2 c5
      have HC1 : Hid (∀ W, Below w1.heap.size w1 W → W.cell? ⟨w.heap.size, 1, none⟩ = some (.int .i64 (k : Nat)) ∧ W.cell? ⟨g, 15 + k * 2, none⟩ = some (.int .i64 (nx : Nat)) ∧ W.cell? ⟨g, 15 + k * 2 + 1, none⟩ = some (.int .i64 (mt : Nat))) := Lib.hid (fun W hW => ⟨(HS1.out.2.1.below hW HS1.out.2.1.lt).cell 1, (World.cell?_of_block (hW.block g HS1.out.1.lt)).trans p0, (World.cell?_of_block (hW.block g HS1.out.1.lt)).trans p1⟩)
      have HE3 : Hid ((w1.alloc (.cells #[.int .i64 0, .int .i64 0] 98)).drew.setRow w1.heap.size #[.int .i64 (nx : Nat), .int .i64 (mt : Nat)] = (w1.alloc (.cells #[.int .i64 (nx : Nat), .int .i64 (mt : Nat)] 98)).drew) := by
        show Hid (((w1.alloc (.cells #[.int .i64 0, .int .i64 0] 98)).setRow w1.heap.size #[.int .i64 (nx : Nat), .int .i64 (mt : Nat)]).drew = _)
        rw [World.setRow_alloc_new]
        exact Lib.hid rfl
      go_wp2_with fail
      refine wp_region_plan (.q 0 (.q 1 (.q 2 (.q 3 (.q 4 (.q 5 (.q 6 (.a1 7 (.a1 8 .fin))))))))) 8 (fun W => Below w1.heap.size w1 W) (by kernel_rfl) rfl (by kernel_rfl) (Below.refl _ _).drew ?_
      refine wpPlan_q rfl rfl rfl ?_; intro K hK
      go_big_quiet_op
      first | go_big_quiet_on | (refine ⟨_, fun _ _ => rfl, ?_⟩; go_big_quiet_on)
      refine wpPlan_q rfl rfl rfl ?_; intro K hK
      go_big_quiet_op
      first | go_big_quiet_on | (refine ⟨_, fun _ _ => rfl, ?_⟩; go_big_quiet_on)
      refine wpPlan_q rfl rfl rfl ?_; intro K hK
      refine ⟨(.int .i64 (k : Nat)), fun W hW => ?_, ?_⟩
      · have q0 := (HC1.out W hW).1
        unfold Oper.quietAt Oper.quietUpon
        simp [go_sem, q0]
      refine hK _ ?_
      clear hK K
      try simp only [Act.put, List.setIfInBounds_toArray, List.set_cons_succ, List.set_cons_zero]
      refine wpPlan_q rfl rfl rfl ?_; intro K hK
      go_big_quiet_op
      first | go_big_quiet_on | (refine ⟨_, fun _ _ => rfl, ?_⟩; go_big_quiet_on)
      refine wpPlan_q rfl rfl rfl ?_; intro K hK
      go_big_quiet_op
      first | go_big_quiet_on | (refine ⟨_, fun _ _ => rfl, ?_⟩; go_big_quiet_on)
      refine wpPlan_q rfl rfl rfl ?_; intro K hK
      go_big_quiet_op
      first | go_big_quiet_on | (refine ⟨_, fun _ _ => rfl, ?_⟩; go_big_quiet_on)
      refine wpPlan_q rfl rfl rfl ?_; intro K hK
      refine ⟨(.agg #[.int .i64 (nx : Nat), .int .i64 (mt : Nat)]), fun W hW => ?_, ?_⟩
      · have q0 := (HC1.out W hW).2.1
        have q1 := (HC1.out W hW).2.2
        unfold Oper.quietAt Oper.quietUpon
        simp [go_sem, q0, q1]
      refine hK _ ?_
      clear hK K
      try simp only [Act.put, List.setIfInBounds_toArray, List.set_cons_succ, List.set_cons_zero]
      refine wpPlan_act true rfl rfl rfl ?_; intro K hK
      go_simp
      refine hK _ _ (fun _ => (Below.refl w1.heap.size w1).drew.alloc (Nat.le_refl _) _) ?_
      clear hK K
      try simp only [Act.put, List.setIfInBounds_toArray, List.set_cons_succ, List.set_cons_zero]
      refine wpPlan_act false rfl rfl rfl ?_; intro K hK
      refine wp_store_row 98 (.tmp 5) (.tmp 29) rfl w1.heap.size #[.int .i64 (nx : Nat), .int .i64 (mt : Nat)] rfl rfl 98 #[.int .i64 0, .int .i64 0] (Blk.new w1 _ _).drew (by kernel_rfl) (by kernel_rfl) (by kernel_rfl) ?_
      rw [HE3.out]
      refine hK _ _ (fun h => by cases h) ?_
      clear hK K
      try simp only [Act.put, List.setIfInBounds_toArray, List.set_cons_succ, List.set_cons_zero]
      refine wpPlan_fin ?_
      have HS2 : Hid (RvM (w1.alloc (.cells #[.int .i64 (nx : Nat), .int .i64 (mt : Nat)] 98)).drew g S A cs V P ∧ Blk (w1.alloc (.cells #[.int .i64 (nx : Nat), .int .i64 (mt : Nat)] 98)).drew w.heap.size 34 #[.int .u8 (mk : Nat), .int .i64 (k : Nat), .int .i64 to, .int .i64 term, .int .i64 (i : Nat), .int .i64 logTerm, .slice E n c, .int .i64 commit, .bool mok] ∧ Below w.heap.size w (w1.alloc (.cells #[.int .i64 (nx : Nat), .int .i64 (mt : Nat)] 98)).drew ∧ Blk (w1.alloc (.cells #[.int .i64 (nx : Nat), .int .i64 (mt : Nat)] 98)).drew w1.heap.size 98 #[.int .i64 (nx : Nat), .int .i64 (mt : Nat)]) := Lib.hid (by
        have hb : Below w1.heap.size w1 (w1.alloc (.cells #[.int .i64 (nx : Nat), .int .i64 (mt : Nat)] 98)).drew := ((Below.refl _ _).alloc (Nat.le_refl _) _).drew
        exact ⟨HS1.out.1.below hb, HS1.out.2.1.below hb HS1.out.2.1.lt, HS1.out.2.2.trans (hb.mono HS1.out.2.2.size), (Blk.new w1 _ _).drew⟩)
      have hg1 : ¬ w1.heap.size = g := by have := HS1.out.1.lt; omega
      have hg2 : ¬ w1.heap.size = w.heap.size := by have := HS1.out.2.1.lt; omega
      generalize (w1.alloc (.cells #[.int .i64 (nx : Nat), .int .i64 (mt : Nat)] 98)).drew = w2 at *
      have u0 : w2.cell? ⟨w1.heap.size, 0, none⟩ = some (.int .i64 (nx : Nat)) := HS2.out.2.2.2.cell 0
      have u1 : w2.cell? ⟨w1.heap.size, 1, none⟩ = some (.int .i64 (mt : Nat)) := HS2.out.2.2.2.cell 1
      have u4 : w2.cell? ⟨w.heap.size, 4, none⟩ = some (.int .i64 (i : Nat)) := HS2.out.2.1.cell 4
      have u8 : w2.cell? ⟨w.heap.size, 8, none⟩ = some (.bool mok) := HS2.out.2.1.cell 8
      have uf : w2.frozen? ⟨w1.heap.size, 0, none⟩ = false := HS2.out.2.2.2.frozen 0
      clear r1 r4 r8 p0 p1
      cases mok
      · have HQ1 : Hid ((S', ms) = (S.back k i, [(S.back k i).send k])) := Lib.hid (by rw [HQ.out, if_neg (fun h => h.elim (fun h => h hr) (fun h => h.elim (fun h => h ht) (fun h => by cases h.1))), if_pos rfl])
        clear HQ
        by_cases h1 : (nx : Int) ≤ (i : Int) + 1
        · by_cases h2 : (nx : Int) ≤ (mt : Int) + 1
          · have HV : Hid (max (mt + 1) (min nx (i + 1)) = mt + 1) := Lib.hid (by omega)
            go_wp2_with fail
            have HB3 : Hid (Blk (w2.setCell ⟨w1.heap.size, 0, none⟩ (.int .i64 ((mt : Int) + 1))) w1.heap.size 98 #[.int .i64 ((mt : Int) + 1), .int .i64 (mt : Nat)] ∧ Chg (fun b => b = w1.heap.size) w2 (w2.setCell ⟨w1.heap.size, 0, none⟩ (.int .i64 ((mt : Int) + 1)))) := Lib.hid ⟨HS2.out.2.2.2.set_ 0 _, Chg.setCell (T := fun b => b = w1.heap.size) (Chg.refl _ _) (p := ⟨w1.heap.size, 0, none⟩) rfl _⟩
            generalize (w2.setCell ⟨w1.heap.size, 0, none⟩ (.int .i64 ((mt : Int) + 1))) = w3 at *
            have HR3 : Hid (RvM w3 g S A cs V P ∧ Blk w3 w.heap.size 34 #[.int .u8 (mk : Nat), .int .i64 (k : Nat), .int .i64 to, .int .i64 term, .int .i64 (i : Nat), .int .i64 logTerm, .slice E n c, .int .i64 commit, .bool false] ∧ Below w.heap.size w w3) := Lib.hid ⟨HS2.out.1.chg HB3.out.2 (fun b hb he => by have := HS1.out.1.ltT hb; omega), HS2.out.2.1.chg HB3.out.2 (fun h => hg2 h.symm), Chg.below HS2.out.2.2.1 HB3.out.2 HS2.out.2.2.1.size (fun b hb => by rw [hb]; exact HS1.out.2.2.size)⟩
            have HX3 : Hid (∀ W, Below w3.heap.size w3 W → W.cell? ⟨w.heap.size, 1, none⟩ = some (.int .i64 (k : Nat)) ∧ W.cell? ⟨w1.heap.size, 0, none⟩ = some (.int .i64 ((mt : Int) + 1)) ∧ W.cell? ⟨w1.heap.size, 1, none⟩ = some (.int .i64 (mt : Nat))) := Lib.hid (fun W hW => ⟨(HR3.out.2.1.below hW HR3.out.2.1.lt).cell 1, (HB3.out.1.below hW HB3.out.1.lt).cell 0, (HB3.out.1.below hW HB3.out.1.lt).cell 1⟩)
            have HTH : Hid (w3.drew.there g (15 + k * 2) 2) := Lib.hid (fun j hj => by
              have h := HR3.out.1.drew.cp k7
              rcases (show j = 0 ∨ j = 1 by omega) with rfl | rfl
              · exact ⟨by rw [Nat.add_zero, h.1]; rfl, HR3.out.1.drew.top.frozen _⟩
              · exact ⟨by rw [h.2]; rfl, HR3.out.1.drew.top.frozen _⟩)
            refine wp_region_plan (.q 0 (.q 1 (.q 2 (.q 3 (.q 4 (.q 5 (.q 6 (.a1 7 .fin)))))))) 7 (fun W => Below w3.heap.size w3 W) (by kernel_rfl) rfl (by kernel_rfl) (Below.refl _ _).drew ?_
            refine wpPlan_q rfl rfl rfl ?_; intro K hK
            go_big_quiet_op
            first | go_big_quiet_on | (refine ⟨_, fun _ _ => rfl, ?_⟩; go_big_quiet_on)
            refine wpPlan_q rfl rfl rfl ?_; intro K hK
            go_big_quiet_op
            first | go_big_quiet_on | (refine ⟨_, fun _ _ => rfl, ?_⟩; go_big_quiet_on)
            refine wpPlan_q rfl rfl rfl ?_; intro K hK
            refine ⟨(.int .i64 (k : Nat)), fun W hW => ?_, ?_⟩
            · have q0 := (HX3.out W hW).1
              unfold Oper.quietAt Oper.quietUpon
              simp [go_sem, q0]
            refine hK _ ?_
            clear hK K
            try simp only [Act.put, List.setIfInBounds_toArray, List.set_cons_succ, List.set_cons_zero]
            refine wpPlan_q rfl rfl rfl ?_; intro K hK
            refine ⟨(.agg #[.int .i64 ((mt : Int) + 1), .int .i64 (mt : Nat)]), fun W hW => ?_, ?_⟩
            · have q0 := (HX3.out W hW).2.1
              have q1 := (HX3.out W hW).2.2
              unfold Oper.quietAt Oper.quietUpon
              simp [go_sem, q0, q1]
            refine hK _ ?_
            clear hK K
            try simp only [Act.put, List.setIfInBounds_toArray, List.set_cons_succ, List.set_cons_zero]
            refine wpPlan_q rfl rfl rfl ?_; intro K hK
            go_big_quiet_op
            first | go_big_quiet_on | (refine ⟨_, fun _ _ => rfl, ?_⟩; go_big_quiet_on)
            refine wpPlan_q rfl rfl rfl ?_; intro K hK
            go_big_quiet_op
            first | go_big_quiet_on | (refine ⟨_, fun _ _ => rfl, ?_⟩; go_big_quiet_on)
            refine wpPlan_q rfl rfl rfl ?_; intro K hK
            go_big_quiet_op
            first | go_big_quiet_on | (refine ⟨_, fun _ _ => rfl, ?_⟩; go_big_quiet_on)
            refine wpPlan_act false rfl rfl rfl ?_; intro K hK
            refine wp_store_mid 98 (.tmp 50) (.tmp 47) rfl g (15 + k * 2) #[.int .i64 ((mt : Int) + 1), .int .i64 (mt : Nat)] rfl rfl HTH.out (by kernel_rfl) (by kernel_rfl) ?_
            refine hK _ _ (fun h => by cases h) ?_
            clear hK K
            try simp only [Act.put, List.setIfInBounds_toArray, List.set_cons_succ, List.set_cons_zero]
            refine wpPlan_fin ?_
            have hst := HR3.out.1.drew.setP (mt + 1) mt k7
            rw [show ((mt + 1 : Nat) : Int) = (mt : Int) + 1 by omega] at hst
            change RvM (w3.drew.setCells g (15 + k * 2) (#[.int .i64 ((mt : Int) + 1), .int .i64 (mt : Nat)] : Array Value).toList) _ _ _ _ _ _ ∧ Chg _ _ (w3.drew.setCells g (15 + k * 2) (#[.int .i64 ((mt : Int) + 1), .int .i64 (mt : Nat)] : Array Value).toList) at hst
            have H4 := Lib.hid hst
            clear hst
            generalize w3.drew.setCells g (15 + k * 2) (#[.int .i64 ((mt : Int) + 1), .int .i64 (mt : Nat)] : Array Value).toList = w4 at *
            have HNX : Hid ((S.back k i).nx.getD k 0 = mt + 1 ∧ (S.back k i).mt.getD k 0 = mt) := by
              refine Lib.hid ⟨?_, HN.out.2.1.symm⟩
              show (S.nx.set k _).getD k 0 = _
              rw [getD_set _ _ _ _ (by rw [HK.out.1.nxl]; exact k7), if_pos rfl, ← HN.out.2.1, ← HN.out.2.2, HV.out]
            have HR4 : Hid (RvM w4 g (S.back k i) A cs V (P.set k (mt + 1, mt)) ∧ Below w.heap.size w w3 ∧ Chg (SvT g A) w w4) := Lib.hid ⟨⟨H4.out.1.top, H4.out.1.log, H4.out.1.vl, H4.out.1.pl⟩, HR3.out.2.2, (Chg.of_below HR3.out.2.2.drew).trans (H4.out.2.mono (fun b hb => .inl hb))⟩
            have HPL : Hid (P.length = 7) := Lib.hid HS.out.pl
            have HRL : Hid (Rel (S.back k i) V (P.set k (mt + 1, mt))) := Lib.hid ⟨fun h => absurd ((show S.role = 1 from h).symm.trans hr) (by decide), fun _ j hj => by
              by_cases hjk : j = k
              · rw [hjk, HNX.out.1, HNX.out.2, List.getD_eq_getElem?_getD, List.getElem?_set_self (by rw [HPL.out]; exact k7)]; rfl
              · rw [List.getD_eq_getElem?_getD, List.getElem?_set_ne (fun e => hjk e.symm), ← List.getD_eq_getElem?_getD, HK.out.2.1.p hr j hj]
                show _ = ((S.nx.set k _).getD j 0, S.mt.getD j 0)
                rw [getD_set _ _ _ _ (by rw [HK.out.1.nxl]; exact k7), if_neg hjk]⟩
            have HSN : Hid (Calls Try.prog 82 #[.pointer (some ⟨g, 0, none⟩), .int .i64 (k : Nat)] w4 (SendPost w4 ((S.back k i).send k))) := Lib.hid (appendTo_any (S.back k i) k g A cs V _ w4 HR4.out.1 (HRL.out.p hr k HK.out.2.2) HK.out.1.len k7 (by rw [HNX.out.1]; have := HV.out; omega) (by rw [HNX.out.1]; have := HV.out; have h5 := HK.out.1.mtm hr k HK.out.2.2; have h6 := HK.out.1.nxm hr k HK.out.2.2; have h7 := HN.out; show _ ≤ S.log.length + 1; omega))
            have z1 : w4.cell? ⟨w.heap.size, 1, none⟩ = some (.int .i64 (k : Nat)) := (HR3.out.2.1.drew.chg H4.out.2 (fun h => hbg h)).cell 1
            go_wp2_with fail
            refine HSN.out.mono ?_
            rintro e w5 ⟨E2, c2, rfl, ho5, hb5⟩
            obtain ⟨m2, hm2⟩ : ∃ z, z = (S.back k i).send k := ⟨_, rfl⟩
            have HQM := Lib.hid HQ1.out
            rw [← hm2] at ho5 HQM ⊢
            clear hm2
            have H5 := Lib.hid (And.intro ho5 hb5)
            clear ho5 hb5
            obtain ⟨p0, p1, p2, p3, p4, p5, pe, p7, p8⟩ := m2
            dsimp only [mcell] at H5 ⊢
            obtain ⟨ne, hne⟩ : ∃ z, z = pe.length := ⟨_, rfl⟩
            have HNE := Lib.hid hne
            rw [← hne] at H5 ⊢
            clear hne
            go_wp2_with (at_builtin; refine wpList_app_msg rfl (.tmp 51) (.tmp 56) rfl w5.heap.size w5.heap.size 0 0 none [] (⟨p0, p1, p2, p3, p4, p5, pe, p7, p8⟩, E2, c2) rfl (World.ownsRow_nil _ _ _ _) rfl (by rw [HNE.out]; exact heap_alloc_new w5 _) (by omega) (by simp) ?_; intro A9 c9 w9 ho9 hg9; have H9 := Lib.hid (And.intro ho9 hg9); clear ho9 hg9)
            go_ret
            have h := HQM.out
            injection h with h1 h2
            rw [h1, h2]
            have ho5 := H5.out.1
            have hg9 := H9.out.2
            rw [HNE.out] at ho5 hg9
            exact OutR.sent (m := ⟨p0, p1, p2, p3, p4, p5, pe, p7, p8⟩) ⟨A, cs, HR4.out.1, HR4.out.2.2, fun a ha => .inl ⟨a, ha, rfl⟩⟩ HRL.out ho5 H5.out.2 hg9 H9.out.1
          · have h2' : decide ((nx : Int) ≤ (mt : Int) + 1) = false := decide_eq_false h2
            have HV : Hid (max (mt + 1) (min nx (i + 1)) = nx) := Lib.hid (by omega)
            go_wp2_with fail
            have HB3 : Hid (Blk (w2.setCell ⟨w1.heap.size, 0, none⟩ (.int .i64 ((nx : Int)))) w1.heap.size 98 #[.int .i64 ((nx : Int)), .int .i64 (mt : Nat)] ∧ Chg (fun b => b = w1.heap.size) w2 (w2.setCell ⟨w1.heap.size, 0, none⟩ (.int .i64 ((nx : Int))))) := Lib.hid ⟨HS2.out.2.2.2.set_ 0 _, Chg.setCell (T := fun b => b = w1.heap.size) (Chg.refl _ _) (p := ⟨w1.heap.size, 0, none⟩) rfl _⟩
            generalize (w2.setCell ⟨w1.heap.size, 0, none⟩ (.int .i64 ((nx : Int)))) = w3 at *
            have HR3 : Hid (RvM w3 g S A cs V P ∧ Blk w3 w.heap.size 34 #[.int .u8 (mk : Nat), .int .i64 (k : Nat), .int .i64 to, .int .i64 term, .int .i64 (i : Nat), .int .i64 logTerm, .slice E n c, .int .i64 commit, .bool false] ∧ Below w.heap.size w w3) := Lib.hid ⟨HS2.out.1.chg HB3.out.2 (fun b hb he => by have := HS1.out.1.ltT hb; omega), HS2.out.2.1.chg HB3.out.2 (fun h => hg2 h.symm), Chg.below HS2.out.2.2.1 HB3.out.2 HS2.out.2.2.1.size (fun b hb => by rw [hb]; exact HS1.out.2.2.size)⟩
            have HX3 : Hid (∀ W, Below w3.heap.size w3 W → W.cell? ⟨w.heap.size, 1, none⟩ = some (.int .i64 (k : Nat)) ∧ W.cell? ⟨w1.heap.size, 0, none⟩ = some (.int .i64 ((nx : Int))) ∧ W.cell? ⟨w1.heap.size, 1, none⟩ = some (.int .i64 (mt : Nat))) := Lib.hid (fun W hW => ⟨(HR3.out.2.1.below hW HR3.out.2.1.lt).cell 1, (HB3.out.1.below hW HB3.out.1.lt).cell 0, (HB3.out.1.below hW HB3.out.1.lt).cell 1⟩)
            have HTH : Hid (w3.drew.there g (15 + k * 2) 2) := Lib.hid (fun j hj => by
              have h := HR3.out.1.drew.cp k7
              rcases (show j = 0 ∨ j = 1 by omega) with rfl | rfl
              · exact ⟨by rw [Nat.add_zero, h.1]; rfl, HR3.out.1.drew.top.frozen _⟩
              · exact ⟨by rw [h.2]; rfl, HR3.out.1.drew.top.frozen _⟩)
            refine wp_region_plan (.q 0 (.q 1 (.q 2 (.q 3 (.q 4 (.q 5 (.q 6 (.a1 7 .fin)))))))) 7 (fun W => Below w3.heap.size w3 W) (by kernel_rfl) rfl (by kernel_rfl) (Below.refl _ _).drew ?_
            refine wpPlan_q rfl rfl rfl ?_; intro K hK
            go_big_quiet_op
            first | go_big_quiet_on | (refine ⟨_, fun _ _ => rfl, ?_⟩; go_big_quiet_on)
            refine wpPlan_q rfl rfl rfl ?_; intro K hK
            go_big_quiet_op
            first | go_big_quiet_on | (refine ⟨_, fun _ _ => rfl, ?_⟩; go_big_quiet_on)
            refine wpPlan_q rfl rfl rfl ?_; intro K hK
            refine ⟨(.int .i64 (k : Nat)), fun W hW => ?_, ?_⟩
            · have q0 := (HX3.out W hW).1
              unfold Oper.quietAt Oper.quietUpon
              simp [go_sem, q0]
            refine hK _ ?_
            clear hK K
            try simp only [Act.put, List.setIfInBounds_toArray, List.set_cons_succ, List.set_cons_zero]
            refine wpPlan_q rfl rfl rfl ?_; intro K hK
            refine ⟨(.agg #[.int .i64 ((nx : Int)), .int .i64 (mt : Nat)]), fun W hW => ?_, ?_⟩
            · have q0 := (HX3.out W hW).2.1
              have q1 := (HX3.out W hW).2.2
              unfold Oper.quietAt Oper.quietUpon
              simp [go_sem, q0, q1]
            refine hK _ ?_
            clear hK K
            try simp only [Act.put, List.setIfInBounds_toArray, List.set_cons_succ, List.set_cons_zero]
            refine wpPlan_q rfl rfl rfl ?_; intro K hK
            go_big_quiet_op
            first | go_big_quiet_on | (refine ⟨_, fun _ _ => rfl, ?_⟩; go_big_quiet_on)
            refine wpPlan_q rfl rfl rfl ?_; intro K hK
            go_big_quiet_op
            first | go_big_quiet_on | (refine ⟨_, fun _ _ => rfl, ?_⟩; go_big_quiet_on)
            refine wpPlan_q rfl rfl rfl ?_; intro K hK
            go_big_quiet_op
            first | go_big_quiet_on | (refine ⟨_, fun _ _ => rfl, ?_⟩; go_big_quiet_on)
            refine wpPlan_act false rfl rfl rfl ?_; intro K hK
            refine wp_store_mid 98 (.tmp 50) (.tmp 47) rfl g (15 + k * 2) #[.int .i64 ((nx : Int)), .int .i64 (mt : Nat)] rfl rfl HTH.out (by kernel_rfl) (by kernel_rfl) ?_
            refine hK _ _ (fun h => by cases h) ?_
            clear hK K
            try simp only [Act.put, List.setIfInBounds_toArray, List.set_cons_succ, List.set_cons_zero]
            refine wpPlan_fin ?_
            have hst := HR3.out.1.drew.setP (nx) mt k7
            change RvM (w3.drew.setCells g (15 + k * 2) (#[.int .i64 ((nx : Int)), .int .i64 (mt : Nat)] : Array Value).toList) _ _ _ _ _ _ ∧ Chg _ _ (w3.drew.setCells g (15 + k * 2) (#[.int .i64 ((nx : Int)), .int .i64 (mt : Nat)] : Array Value).toList) at hst
            have H4 := Lib.hid hst
            clear hst
            generalize w3.drew.setCells g (15 + k * 2) (#[.int .i64 ((nx : Int)), .int .i64 (mt : Nat)] : Array Value).toList = w4 at *
            have HNX : Hid ((S.back k i).nx.getD k 0 = nx ∧ (S.back k i).mt.getD k 0 = mt) := by
              refine Lib.hid ⟨?_, HN.out.2.1.symm⟩
              show (S.nx.set k _).getD k 0 = _
              rw [getD_set _ _ _ _ (by rw [HK.out.1.nxl]; exact k7), if_pos rfl, ← HN.out.2.1, ← HN.out.2.2, HV.out]
            have HR4 : Hid (RvM w4 g (S.back k i) A cs V (P.set k (nx, mt)) ∧ Below w.heap.size w w3 ∧ Chg (SvT g A) w w4) := Lib.hid ⟨⟨H4.out.1.top, H4.out.1.log, H4.out.1.vl, H4.out.1.pl⟩, HR3.out.2.2, (Chg.of_below HR3.out.2.2.drew).trans (H4.out.2.mono (fun b hb => .inl hb))⟩
            have HPL : Hid (P.length = 7) := Lib.hid HS.out.pl
            have HRL : Hid (Rel (S.back k i) V (P.set k (nx, mt))) := Lib.hid ⟨fun h => absurd ((show S.role = 1 from h).symm.trans hr) (by decide), fun _ j hj => by
              by_cases hjk : j = k
              · rw [hjk, HNX.out.1, HNX.out.2, List.getD_eq_getElem?_getD, List.getElem?_set_self (by rw [HPL.out]; exact k7)]; rfl
              · rw [List.getD_eq_getElem?_getD, List.getElem?_set_ne (fun e => hjk e.symm), ← List.getD_eq_getElem?_getD, HK.out.2.1.p hr j hj]
                show _ = ((S.nx.set k _).getD j 0, S.mt.getD j 0)
                rw [getD_set _ _ _ _ (by rw [HK.out.1.nxl]; exact k7), if_neg hjk]⟩
            have HSN : Hid (Calls Try.prog 82 #[.pointer (some ⟨g, 0, none⟩), .int .i64 (k : Nat)] w4 (SendPost w4 ((S.back k i).send k))) := Lib.hid (appendTo_any (S.back k i) k g A cs V _ w4 HR4.out.1 (HRL.out.p hr k HK.out.2.2) HK.out.1.len k7 (by rw [HNX.out.1]; have := HV.out; omega) (by rw [HNX.out.1]; have := HV.out; have h5 := HK.out.1.mtm hr k HK.out.2.2; have h6 := HK.out.1.nxm hr k HK.out.2.2; have h7 := HN.out; show _ ≤ S.log.length + 1; omega))
            have z1 : w4.cell? ⟨w.heap.size, 1, none⟩ = some (.int .i64 (k : Nat)) := (HR3.out.2.1.drew.chg H4.out.2 (fun h => hbg h)).cell 1
            go_wp2_with fail
            refine HSN.out.mono ?_
            rintro e w5 ⟨E2, c2, rfl, ho5, hb5⟩
            obtain ⟨m2, hm2⟩ : ∃ z, z = (S.back k i).send k := ⟨_, rfl⟩
            have HQM := Lib.hid HQ1.out
            rw [← hm2] at ho5 HQM ⊢
            clear hm2
            have H5 := Lib.hid (And.intro ho5 hb5)
            clear ho5 hb5
            obtain ⟨p0, p1, p2, p3, p4, p5, pe, p7, p8⟩ := m2
            dsimp only [mcell] at H5 ⊢
            obtain ⟨ne, hne⟩ : ∃ z, z = pe.length := ⟨_, rfl⟩
            have HNE := Lib.hid hne
            rw [← hne] at H5 ⊢
            clear hne
            go_wp2_with (at_builtin; refine wpList_app_msg rfl (.tmp 51) (.tmp 56) rfl w5.heap.size w5.heap.size 0 0 none [] (⟨p0, p1, p2, p3, p4, p5, pe, p7, p8⟩, E2, c2) rfl (World.ownsRow_nil _ _ _ _) rfl (by rw [HNE.out]; exact heap_alloc_new w5 _) (by omega) (by simp) ?_; intro A9 c9 w9 ho9 hg9; have H9 := Lib.hid (And.intro ho9 hg9); clear ho9 hg9)
            go_ret
            have h := HQM.out
            injection h with h1 h2
            rw [h1, h2]
            have ho5 := H5.out.1
            have hg9 := H9.out.2
            rw [HNE.out] at ho5 hg9
            exact OutR.sent (m := ⟨p0, p1, p2, p3, p4, p5, pe, p7, p8⟩) ⟨A, cs, HR4.out.1, HR4.out.2.2, fun a ha => .inl ⟨a, ha, rfl⟩⟩ HRL.out ho5 H5.out.2 hg9 H9.out.1
        · have h1' : decide ((nx : Int) ≤ (i : Int) + 1) = false := decide_eq_false h1
          by_cases h2 : (i : Int) + 1 ≤ (mt : Int) + 1
          · have HV : Hid (max (mt + 1) (min nx (i + 1)) = mt + 1) := Lib.hid (by omega)
            go_wp2_with fail
            have HB3 : Hid (Blk (w2.setCell ⟨w1.heap.size, 0, none⟩ (.int .i64 ((mt : Int) + 1))) w1.heap.size 98 #[.int .i64 ((mt : Int) + 1), .int .i64 (mt : Nat)] ∧ Chg (fun b => b = w1.heap.size) w2 (w2.setCell ⟨w1.heap.size, 0, none⟩ (.int .i64 ((mt : Int) + 1)))) := Lib.hid ⟨HS2.out.2.2.2.set_ 0 _, Chg.setCell (T := fun b => b = w1.heap.size) (Chg.refl _ _) (p := ⟨w1.heap.size, 0, none⟩) rfl _⟩
            generalize (w2.setCell ⟨w1.heap.size, 0, none⟩ (.int .i64 ((mt : Int) + 1))) = w3 at *
            have HR3 : Hid (RvM w3 g S A cs V P ∧ Blk w3 w.heap.size 34 #[.int .u8 (mk : Nat), .int .i64 (k : Nat), .int .i64 to, .int .i64 term, .int .i64 (i : Nat), .int .i64 logTerm, .slice E n c, .int .i64 commit, .bool false] ∧ Below w.heap.size w w3) := Lib.hid ⟨HS2.out.1.chg HB3.out.2 (fun b hb he => by have := HS1.out.1.ltT hb; omega), HS2.out.2.1.chg HB3.out.2 (fun h => hg2 h.symm), Chg.below HS2.out.2.2.1 HB3.out.2 HS2.out.2.2.1.size (fun b hb => by rw [hb]; exact HS1.out.2.2.size)⟩
            have HX3 : Hid (∀ W, Below w3.heap.size w3 W → W.cell? ⟨w.heap.size, 1, none⟩ = some (.int .i64 (k : Nat)) ∧ W.cell? ⟨w1.heap.size, 0, none⟩ = some (.int .i64 ((mt : Int) + 1)) ∧ W.cell? ⟨w1.heap.size, 1, none⟩ = some (.int .i64 (mt : Nat))) := Lib.hid (fun W hW => ⟨(HR3.out.2.1.below hW HR3.out.2.1.lt).cell 1, (HB3.out.1.below hW HB3.out.1.lt).cell 0, (HB3.out.1.below hW HB3.out.1.lt).cell 1⟩)
            have HTH : Hid (w3.drew.there g (15 + k * 2) 2) := Lib.hid (fun j hj => by
              have h := HR3.out.1.drew.cp k7
              rcases (show j = 0 ∨ j = 1 by omega) with rfl | rfl
              · exact ⟨by rw [Nat.add_zero, h.1]; rfl, HR3.out.1.drew.top.frozen _⟩
              · exact ⟨by rw [h.2]; rfl, HR3.out.1.drew.top.frozen _⟩)
            refine wp_region_plan (.q 0 (.q 1 (.q 2 (.q 3 (.q 4 (.q 5 (.q 6 (.a1 7 .fin)))))))) 7 (fun W => Below w3.heap.size w3 W) (by kernel_rfl) rfl (by kernel_rfl) (Below.refl _ _).drew ?_
            refine wpPlan_q rfl rfl rfl ?_; intro K hK
            go_big_quiet_op
            first | go_big_quiet_on | (refine ⟨_, fun _ _ => rfl, ?_⟩; go_big_quiet_on)
            refine wpPlan_q rfl rfl rfl ?_; intro K hK
            go_big_quiet_op
            first | go_big_quiet_on | (refine ⟨_, fun _ _ => rfl, ?_⟩; go_big_quiet_on)
            refine wpPlan_q rfl rfl rfl ?_; intro K hK
            refine ⟨(.int .i64 (k : Nat)), fun W hW => ?_, ?_⟩
            · have q0 := (HX3.out W hW).1
              unfold Oper.quietAt Oper.quietUpon
              simp [go_sem, q0]
            refine hK _ ?_
            clear hK K
            try simp only [Act.put, List.setIfInBounds_toArray, List.set_cons_succ, List.set_cons_zero]
            refine wpPlan_q rfl rfl rfl ?_; intro K hK
            refine ⟨(.agg #[.int .i64 ((mt : Int) + 1), .int .i64 (mt : Nat)]), fun W hW => ?_, ?_⟩
            · have q0 := (HX3.out W hW).2.1
              have q1 := (HX3.out W hW).2.2
              unfold Oper.quietAt Oper.quietUpon
              simp [go_sem, q0, q1]
            refine hK _ ?_
            clear hK K
            try simp only [Act.put, List.setIfInBounds_toArray, List.set_cons_succ, List.set_cons_zero]
            refine wpPlan_q rfl rfl rfl ?_; intro K hK
            go_big_quiet_op
            first | go_big_quiet_on | (refine ⟨_, fun _ _ => rfl, ?_⟩; go_big_quiet_on)
            refine wpPlan_q rfl rfl rfl ?_; intro K hK
            go_big_quiet_op
            first | go_big_quiet_on | (refine ⟨_, fun _ _ => rfl, ?_⟩; go_big_quiet_on)
            refine wpPlan_q rfl rfl rfl ?_; intro K hK
            go_big_quiet_op
            first | go_big_quiet_on | (refine ⟨_, fun _ _ => rfl, ?_⟩; go_big_quiet_on)
            refine wpPlan_act false rfl rfl rfl ?_; intro K hK
            refine wp_store_mid 98 (.tmp 50) (.tmp 47) rfl g (15 + k * 2) #[.int .i64 ((mt : Int) + 1), .int .i64 (mt : Nat)] rfl rfl HTH.out (by kernel_rfl) (by kernel_rfl) ?_
            refine hK _ _ (fun h => by cases h) ?_
            clear hK K
            try simp only [Act.put, List.setIfInBounds_toArray, List.set_cons_succ, List.set_cons_zero]
            refine wpPlan_fin ?_
            have hst := HR3.out.1.drew.setP (mt + 1) mt k7
            rw [show ((mt + 1 : Nat) : Int) = (mt : Int) + 1 by omega] at hst
            change RvM (w3.drew.setCells g (15 + k * 2) (#[.int .i64 ((mt : Int) + 1), .int .i64 (mt : Nat)] : Array Value).toList) _ _ _ _ _ _ ∧ Chg _ _ (w3.drew.setCells g (15 + k * 2) (#[.int .i64 ((mt : Int) + 1), .int .i64 (mt : Nat)] : Array Value).toList) at hst
            have H4 := Lib.hid hst
            clear hst
            generalize w3.drew.setCells g (15 + k * 2) (#[.int .i64 ((mt : Int) + 1), .int .i64 (mt : Nat)] : Array Value).toList = w4 at *
            have HNX : Hid ((S.back k i).nx.getD k 0 = mt + 1 ∧ (S.back k i).mt.getD k 0 = mt) := by
              refine Lib.hid ⟨?_, HN.out.2.1.symm⟩
              show (S.nx.set k _).getD k 0 = _
              rw [getD_set _ _ _ _ (by rw [HK.out.1.nxl]; exact k7), if_pos rfl, ← HN.out.2.1, ← HN.out.2.2, HV.out]
            have HR4 : Hid (RvM w4 g (S.back k i) A cs V (P.set k (mt + 1, mt)) ∧ Below w.heap.size w w3 ∧ Chg (SvT g A) w w4) := Lib.hid ⟨⟨H4.out.1.top, H4.out.1.log, H4.out.1.vl, H4.out.1.pl⟩, HR3.out.2.2, (Chg.of_below HR3.out.2.2.drew).trans (H4.out.2.mono (fun b hb => .inl hb))⟩
            have HPL : Hid (P.length = 7) := Lib.hid HS.out.pl
            have HRL : Hid (Rel (S.back k i) V (P.set k (mt + 1, mt))) := Lib.hid ⟨fun h => absurd ((show S.role = 1 from h).symm.trans hr) (by decide), fun _ j hj => by
              by_cases hjk : j = k
              · rw [hjk, HNX.out.1, HNX.out.2, List.getD_eq_getElem?_getD, List.getElem?_set_self (by rw [HPL.out]; exact k7)]; rfl
              · rw [List.getD_eq_getElem?_getD, List.getElem?_set_ne (fun e => hjk e.symm), ← List.getD_eq_getElem?_getD, HK.out.2.1.p hr j hj]
                show _ = ((S.nx.set k _).getD j 0, S.mt.getD j 0)
                rw [getD_set _ _ _ _ (by rw [HK.out.1.nxl]; exact k7), if_neg hjk]⟩
            have HSN : Hid (Calls Try.prog 82 #[.pointer (some ⟨g, 0, none⟩), .int .i64 (k : Nat)] w4 (SendPost w4 ((S.back k i).send k))) := Lib.hid (appendTo_any (S.back k i) k g A cs V _ w4 HR4.out.1 (HRL.out.p hr k HK.out.2.2) HK.out.1.len k7 (by rw [HNX.out.1]; have := HV.out; omega) (by rw [HNX.out.1]; have := HV.out; have h5 := HK.out.1.mtm hr k HK.out.2.2; have h6 := HK.out.1.nxm hr k HK.out.2.2; have h7 := HN.out; show _ ≤ S.log.length + 1; omega))
            have z1 : w4.cell? ⟨w.heap.size, 1, none⟩ = some (.int .i64 (k : Nat)) := (HR3.out.2.1.drew.chg H4.out.2 (fun h => hbg h)).cell 1
            go_wp2_with fail
            refine HSN.out.mono ?_
            rintro e w5 ⟨E2, c2, rfl, ho5, hb5⟩
            obtain ⟨m2, hm2⟩ : ∃ z, z = (S.back k i).send k := ⟨_, rfl⟩
            have HQM := Lib.hid HQ1.out
            rw [← hm2] at ho5 HQM ⊢
            clear hm2
            have H5 := Lib.hid (And.intro ho5 hb5)
            clear ho5 hb5
            obtain ⟨p0, p1, p2, p3, p4, p5, pe, p7, p8⟩ := m2
            dsimp only [mcell] at H5 ⊢
            obtain ⟨ne, hne⟩ : ∃ z, z = pe.length := ⟨_, rfl⟩
            have HNE := Lib.hid hne
            rw [← hne] at H5 ⊢
            clear hne
            go_wp2_with (at_builtin; refine wpList_app_msg rfl (.tmp 51) (.tmp 56) rfl w5.heap.size w5.heap.size 0 0 none [] (⟨p0, p1, p2, p3, p4, p5, pe, p7, p8⟩, E2, c2) rfl (World.ownsRow_nil _ _ _ _) rfl (by rw [HNE.out]; exact heap_alloc_new w5 _) (by omega) (by simp) ?_; intro A9 c9 w9 ho9 hg9; have H9 := Lib.hid (And.intro ho9 hg9); clear ho9 hg9)
            go_ret
            have h := HQM.out
            injection h with h1 h2
            rw [h1, h2]
            have ho5 := H5.out.1
            have hg9 := H9.out.2
            rw [HNE.out] at ho5 hg9
            exact OutR.sent (m := ⟨p0, p1, p2, p3, p4, p5, pe, p7, p8⟩) ⟨A, cs, HR4.out.1, HR4.out.2.2, fun a ha => .inl ⟨a, ha, rfl⟩⟩ HRL.out ho5 H5.out.2 hg9 H9.out.1
          · have h2' : decide ((i : Int) + 1 ≤ (mt : Int) + 1) = false := decide_eq_false h2
            have HV : Hid (max (mt + 1) (min nx (i + 1)) = i + 1) := Lib.hid (by omega)
            go_wp2_with fail
            have HB3 : Hid (Blk (w2.setCell ⟨w1.heap.size, 0, none⟩ (.int .i64 ((i : Int) + 1))) w1.heap.size 98 #[.int .i64 ((i : Int) + 1), .int .i64 (mt : Nat)] ∧ Chg (fun b => b = w1.heap.size) w2 (w2.setCell ⟨w1.heap.size, 0, none⟩ (.int .i64 ((i : Int) + 1)))) := Lib.hid ⟨HS2.out.2.2.2.set_ 0 _, Chg.setCell (T := fun b => b = w1.heap.size) (Chg.refl _ _) (p := ⟨w1.heap.size, 0, none⟩) rfl _⟩
            generalize (w2.setCell ⟨w1.heap.size, 0, none⟩ (.int .i64 ((i : Int) + 1))) = w3 at *
            have HR3 : Hid (RvM w3 g S A cs V P ∧ Blk w3 w.heap.size 34 #[.int .u8 (mk : Nat), .int .i64 (k : Nat), .int .i64 to, .int .i64 term, .int .i64 (i : Nat), .int .i64 logTerm, .slice E n c, .int .i64 commit, .bool false] ∧ Below w.heap.size w w3) := Lib.hid ⟨HS2.out.1.chg HB3.out.2 (fun b hb he => by have := HS1.out.1.ltT hb; omega), HS2.out.2.1.chg HB3.out.2 (fun h => hg2 h.symm), Chg.below HS2.out.2.2.1 HB3.out.2 HS2.out.2.2.1.size (fun b hb => by rw [hb]; exact HS1.out.2.2.size)⟩
            have HX3 : Hid (∀ W, Below w3.heap.size w3 W → W.cell? ⟨w.heap.size, 1, none⟩ = some (.int .i64 (k : Nat)) ∧ W.cell? ⟨w1.heap.size, 0, none⟩ = some (.int .i64 ((i : Int) + 1)) ∧ W.cell? ⟨w1.heap.size, 1, none⟩ = some (.int .i64 (mt : Nat))) := Lib.hid (fun W hW => ⟨(HR3.out.2.1.below hW HR3.out.2.1.lt).cell 1, (HB3.out.1.below hW HB3.out.1.lt).cell 0, (HB3.out.1.below hW HB3.out.1.lt).cell 1⟩)
            have HTH : Hid (w3.drew.there g (15 + k * 2) 2) := Lib.hid (fun j hj => by
              have h := HR3.out.1.drew.cp k7
              rcases (show j = 0 ∨ j = 1 by omega) with rfl | rfl
              · exact ⟨by rw [Nat.add_zero, h.1]; rfl, HR3.out.1.drew.top.frozen _⟩
              · exact ⟨by rw [h.2]; rfl, HR3.out.1.drew.top.frozen _⟩)
            refine wp_region_plan (.q 0 (.q 1 (.q 2 (.q 3 (.q 4 (.q 5 (.q 6 (.a1 7 .fin)))))))) 7 (fun W => Below w3.heap.size w3 W) (by kernel_rfl) rfl (by kernel_rfl) (Below.refl _ _).drew ?_
            refine wpPlan_q rfl rfl rfl ?_; intro K hK
            go_big_quiet_op
            first | go_big_quiet_on | (refine ⟨_, fun _ _ => rfl, ?_⟩; go_big_quiet_on)
            refine wpPlan_q rfl rfl rfl ?_; intro K hK
            go_big_quiet_op
            first | go_big_quiet_on | (refine ⟨_, fun _ _ => rfl, ?_⟩; go_big_quiet_on)
            refine wpPlan_q rfl rfl rfl ?_; intro K hK
            refine ⟨(.int .i64 (k : Nat)), fun W hW => ?_, ?_⟩
            · have q0 := (HX3.out W hW).1
              unfold Oper.quietAt Oper.quietUpon
              simp [go_sem, q0]
            refine hK _ ?_
            clear hK K
            try simp only [Act.put, List.setIfInBounds_toArray, List.set_cons_succ, List.set_cons_zero]
            refine wpPlan_q rfl rfl rfl ?_; intro K hK
            refine ⟨(.agg #[.int .i64 ((i : Int) + 1), .int .i64 (mt : Nat)]), fun W hW => ?_, ?_⟩
            · have q0 := (HX3.out W hW).2.1
              have q1 := (HX3.out W hW).2.2
              unfold Oper.quietAt Oper.quietUpon
              simp [go_sem, q0, q1]
            refine hK _ ?_
            clear hK K
            try simp only [Act.put, List.setIfInBounds_toArray, List.set_cons_succ, List.set_cons_zero]
            refine wpPlan_q rfl rfl rfl ?_; intro K hK
            go_big_quiet_op
            first | go_big_quiet_on | (refine ⟨_, fun _ _ => rfl, ?_⟩; go_big_quiet_on)
            refine wpPlan_q rfl rfl rfl ?_; intro K hK
            go_big_quiet_op
            first | go_big_quiet_on | (refine ⟨_, fun _ _ => rfl, ?_⟩; go_big_quiet_on)
            refine wpPlan_q rfl rfl rfl ?_; intro K hK
            go_big_quiet_op
            first | go_big_quiet_on | (refine ⟨_, fun _ _ => rfl, ?_⟩; go_big_quiet_on)
            refine wpPlan_act false rfl rfl rfl ?_; intro K hK
            refine wp_store_mid 98 (.tmp 50) (.tmp 47) rfl g (15 + k * 2) #[.int .i64 ((i : Int) + 1), .int .i64 (mt : Nat)] rfl rfl HTH.out (by kernel_rfl) (by kernel_rfl) ?_
            refine hK _ _ (fun h => by cases h) ?_
            clear hK K
            try simp only [Act.put, List.setIfInBounds_toArray, List.set_cons_succ, List.set_cons_zero]
            refine wpPlan_fin ?_
            have hst := HR3.out.1.drew.setP (i + 1) mt k7
            rw [show ((i + 1 : Nat) : Int) = (i : Int) + 1 by omega] at hst
            change RvM (w3.drew.setCells g (15 + k * 2) (#[.int .i64 ((i : Int) + 1), .int .i64 (mt : Nat)] : Array Value).toList) _ _ _ _ _ _ ∧ Chg _ _ (w3.drew.setCells g (15 + k * 2) (#[.int .i64 ((i : Int) + 1), .int .i64 (mt : Nat)] : Array Value).toList) at hst
            have H4 := Lib.hid hst
            clear hst
            generalize w3.drew.setCells g (15 + k * 2) (#[.int .i64 ((i : Int) + 1), .int .i64 (mt : Nat)] : Array Value).toList = w4 at *
            have HNX : Hid ((S.back k i).nx.getD k 0 = i + 1 ∧ (S.back k i).mt.getD k 0 = mt) := by
              refine Lib.hid ⟨?_, HN.out.2.1.symm⟩
              show (S.nx.set k _).getD k 0 = _
              rw [getD_set _ _ _ _ (by rw [HK.out.1.nxl]; exact k7), if_pos rfl, ← HN.out.2.1, ← HN.out.2.2, HV.out]
            have HR4 : Hid (RvM w4 g (S.back k i) A cs V (P.set k (i + 1, mt)) ∧ Below w.heap.size w w3 ∧ Chg (SvT g A) w w4) := Lib.hid ⟨⟨H4.out.1.top, H4.out.1.log, H4.out.1.vl, H4.out.1.pl⟩, HR3.out.2.2, (Chg.of_below HR3.out.2.2.drew).trans (H4.out.2.mono (fun b hb => .inl hb))⟩
            have HPL : Hid (P.length = 7) := Lib.hid HS.out.pl
            have HRL : Hid (Rel (S.back k i) V (P.set k (i + 1, mt))) := Lib.hid ⟨fun h => absurd ((show S.role = 1 from h).symm.trans hr) (by decide), fun _ j hj => by
              by_cases hjk : j = k
              · rw [hjk, HNX.out.1, HNX.out.2, List.getD_eq_getElem?_getD, List.getElem?_set_self (by rw [HPL.out]; exact k7)]; rfl
              · rw [List.getD_eq_getElem?_getD, List.getElem?_set_ne (fun e => hjk e.symm), ← List.getD_eq_getElem?_getD, HK.out.2.1.p hr j hj]
                show _ = ((S.nx.set k _).getD j 0, S.mt.getD j 0)
                rw [getD_set _ _ _ _ (by rw [HK.out.1.nxl]; exact k7), if_neg hjk]⟩
            have HSN : Hid (Calls Try.prog 82 #[.pointer (some ⟨g, 0, none⟩), .int .i64 (k : Nat)] w4 (SendPost w4 ((S.back k i).send k))) := Lib.hid (appendTo_any (S.back k i) k g A cs V _ w4 HR4.out.1 (HRL.out.p hr k HK.out.2.2) HK.out.1.len k7 (by rw [HNX.out.1]; have := HV.out; omega) (by rw [HNX.out.1]; have := HV.out; have h5 := HK.out.1.mtm hr k HK.out.2.2; have h6 := HK.out.1.nxm hr k HK.out.2.2; have h7 := HN.out; show _ ≤ S.log.length + 1; omega))
            have z1 : w4.cell? ⟨w.heap.size, 1, none⟩ = some (.int .i64 (k : Nat)) := (HR3.out.2.1.drew.chg H4.out.2 (fun h => hbg h)).cell 1
            go_wp2_with fail
            refine HSN.out.mono ?_
            rintro e w5 ⟨E2, c2, rfl, ho5, hb5⟩
            obtain ⟨m2, hm2⟩ : ∃ z, z = (S.back k i).send k := ⟨_, rfl⟩
            have HQM := Lib.hid HQ1.out
            rw [← hm2] at ho5 HQM ⊢
            clear hm2
            have H5 := Lib.hid (And.intro ho5 hb5)
            clear ho5 hb5
            obtain ⟨p0, p1, p2, p3, p4, p5, pe, p7, p8⟩ := m2
            dsimp only [mcell] at H5 ⊢
            obtain ⟨ne, hne⟩ : ∃ z, z = pe.length := ⟨_, rfl⟩
            have HNE := Lib.hid hne
            rw [← hne] at H5 ⊢
            clear hne
            go_wp2_with (at_builtin; refine wpList_app_msg rfl (.tmp 51) (.tmp 56) rfl w5.heap.size w5.heap.size 0 0 none [] (⟨p0, p1, p2, p3, p4, p5, pe, p7, p8⟩, E2, c2) rfl (World.ownsRow_nil _ _ _ _) rfl (by rw [HNE.out]; exact heap_alloc_new w5 _) (by omega) (by simp) ?_; intro A9 c9 w9 ho9 hg9; have H9 := Lib.hid (And.intro ho9 hg9); clear ho9 hg9)
            go_ret
            have h := HQM.out
            injection h with h1 h2
            rw [h1, h2]
            have ho5 := H5.out.1
            have hg9 := H9.out.2
            rw [HNE.out] at ho5 hg9
            exact OutR.sent (m := ⟨p0, p1, p2, p3, p4, p5, pe, p7, p8⟩) ⟨A, cs, HR4.out.1, HR4.out.2.2, fun a ha => .inl ⟨a, ha, rfl⟩⟩ HRL.out ho5 H5.out.2 hg9 H9.out.1
      · have c4 := HS2.out.1.c4
        rw [← HN.out.1] at c4
        clear u0 u1 uf
        go_wp2_with fail
        clear u8
        go_quiet (fail)
        have HB2 : Hid (Below w2.heap.size w2 (w2.drewN nq)) := Lib.hid (below_drewN (Below.refl _ _) nq)
        generalize w2.drewN nq = w3 at *
        have HS3 : Hid (RvM w3 g S A cs V P ∧ Blk w3 w.heap.size 34 #[.int .u8 (mk : Nat), .int .i64 (k : Nat), .int .i64 to, .int .i64 term, .int .i64 (i : Nat), .int .i64 logTerm, .slice E n c, .int .i64 commit, .bool true] ∧ Below w.heap.size w w3 ∧ Blk w3 w1.heap.size 98 #[.int .i64 (nx : Nat), .int .i64 (mt : Nat)]) := Lib.hid ⟨HS2.out.1.below HB2.out, HS2.out.2.1.below HB2.out HS2.out.2.1.lt, HS2.out.2.2.1.trans (HB2.out.mono HS2.out.2.2.1.size), HS2.out.2.2.2.below HB2.out HS2.out.2.2.2.lt⟩
        clear c4 u4
        by_cases hil : l < i
        · have d1 : decide ((l : Int) < (i : Int)) = true := decide_eq_true (by omega)
          have HQ1 : Hid ((S', ms) = (S, [])) := Lib.hid (by rw [HQ.out, if_pos (.inr (.inr ⟨by trivial, by omega⟩))])
          clear HQ
          go_wp2_with fail
          go_ret
          have h := HQ1.out
          injection h with h1 h2
          rw [h1, h2]
          exact OutR.nil ⟨A, cs, HS3.out.1, .of_below HS3.out.2.2.1, fun a ha => .inl ⟨a, ha, rfl⟩⟩ HK.out.2.1
        · have d1 : decide ((l : Int) < (i : Int)) = false := decide_eq_false (by omega)
          have HQ1 : Hid ((S', ms) = if l < max mt i + 1 then ((S.has k i).agree, []) else ((S.has k i).agree, [(S.has k i).agree.send k])) := Lib.hid (by rw [HQ.out, if_neg (fun h => h.elim (fun h => h hr) (fun h => h.elim (fun h => h ht) (fun h => by omega))), if_neg (by decide)])
          clear HQ
          have u1 : w3.cell? ⟨w1.heap.size, 1, none⟩ = some (.int .i64 (mt : Nat)) := HS3.out.2.2.2.cell 1
          have u0 : w3.cell? ⟨w1.heap.size, 0, none⟩ = some (.int .i64 (nx : Nat)) := HS3.out.2.2.2.cell 0
          have u4 : w3.cell? ⟨w.heap.size, 4, none⟩ = some (.int .i64 (i : Nat)) := HS3.out.2.1.cell 4
          have uf : w3.frozen? ⟨w1.heap.size, 0, none⟩ = false := HS3.out.2.2.2.frozen 0
          have uf1 : w3.frozen? ⟨w1.heap.size, 1, none⟩ = false := HS3.out.2.2.2.frozen 1
          by_cases h1 : (i : Int) ≤ (mt : Int)
          · have HV : Hid (max mt i = mt) := Lib.hid (by omega)
            have hvl : mt ≤ l := by have := HK.out.1.mtm hr k HK.out.2.2; rw [← HN.out.2.1, ← HN.out.1] at this; omega
            go_wp2_with fail
            have HB4 : Hid (Blk ((w3.setCell ⟨w1.heap.size, 1, none⟩ (.int .i64 (mt : Nat))).setCell ⟨w1.heap.size, 0, none⟩ (.int .i64 ((mt : Int) + 1))) w1.heap.size 98 #[.int .i64 ((mt : Int) + 1), .int .i64 (mt : Nat)] ∧ Chg (fun b => b = w1.heap.size) w3 ((w3.setCell ⟨w1.heap.size, 1, none⟩ (.int .i64 (mt : Nat))).setCell ⟨w1.heap.size, 0, none⟩ (.int .i64 ((mt : Int) + 1)))) := Lib.hid ⟨(HS3.out.2.2.2.set_ 1 _).set_ 0 _, Chg.setCell (T := fun b => b = w1.heap.size) (Chg.setCell (T := fun b => b = w1.heap.size) (Chg.refl _ _) (p := ⟨w1.heap.size, 1, none⟩) rfl _) (p := ⟨w1.heap.size, 0, none⟩) rfl _⟩
            generalize ((w3.setCell ⟨w1.heap.size, 1, none⟩ (.int .i64 (mt : Nat))).setCell ⟨w1.heap.size, 0, none⟩ (.int .i64 ((mt : Int) + 1))) = w4 at *
            have HR4 : Hid (RvM w4 g S A cs V P ∧ Blk w4 w.heap.size 34 #[.int .u8 (mk : Nat), .int .i64 (k : Nat), .int .i64 to, .int .i64 term, .int .i64 (i : Nat), .int .i64 logTerm, .slice E n c, .int .i64 commit, .bool true] ∧ Below w.heap.size w w4) := Lib.hid ⟨HS3.out.1.chg HB4.out.2 (fun b hb he => by have := HS1.out.1.ltT hb; omega), HS3.out.2.1.chg HB4.out.2 (fun h => hg2 h.symm), Chg.below HS3.out.2.2.1 HB4.out.2 HS3.out.2.2.1.size (fun b hb => by rw [hb]; exact HS1.out.2.2.size)⟩
            clear u0 u1 u4 uf uf1
            have HX4 : Hid (∀ W, Below w4.heap.size w4 W → W.cell? ⟨w.heap.size, 1, none⟩ = some (.int .i64 (k : Nat)) ∧ W.cell? ⟨w1.heap.size, 0, none⟩ = some (.int .i64 ((mt : Int) + 1)) ∧ W.cell? ⟨w1.heap.size, 1, none⟩ = some (.int .i64 (mt : Nat))) := Lib.hid (fun W hW => ⟨(HR4.out.2.1.below hW HR4.out.2.1.lt).cell 1, (HB4.out.1.below hW HB4.out.1.lt).cell 0, (HB4.out.1.below hW HB4.out.1.lt).cell 1⟩)
            have HTH : Hid (w4.drew.there g (15 + k * 2) 2) := Lib.hid (fun j hj => by
              have h := HR4.out.1.drew.cp k7
              rcases (show j = 0 ∨ j = 1 by omega) with rfl | rfl
              · exact ⟨by rw [Nat.add_zero, h.1]; rfl, HR4.out.1.drew.top.frozen _⟩
              · exact ⟨by rw [h.2]; rfl, HR4.out.1.drew.top.frozen _⟩)
            refine wp_region_plan (.q 0 (.q 1 (.q 2 (.q 3 (.q 4 (.q 5 (.q 6 (.a1 7 .fin)))))))) 7 (fun W => Below w4.heap.size w4 W) (by kernel_rfl) rfl (by kernel_rfl) (Below.refl _ _).drew ?_
            refine wpPlan_q rfl rfl rfl ?_; intro K hK
            go_big_quiet_op
            first | go_big_quiet_on | (refine ⟨_, fun _ _ => rfl, ?_⟩; go_big_quiet_on)
            refine wpPlan_q rfl rfl rfl ?_; intro K hK
            go_big_quiet_op
            first | go_big_quiet_on | (refine ⟨_, fun _ _ => rfl, ?_⟩; go_big_quiet_on)
            refine wpPlan_q rfl rfl rfl ?_; intro K hK
            refine ⟨(.int .i64 (k : Nat)), fun W hW => ?_, ?_⟩
            · have q0 := (HX4.out W hW).1
              unfold Oper.quietAt Oper.quietUpon
              simp [go_sem, q0]
            refine hK _ ?_
            clear hK K
            try simp only [Act.put, List.setIfInBounds_toArray, List.set_cons_succ, List.set_cons_zero]
            refine wpPlan_q rfl rfl rfl ?_; intro K hK
            refine ⟨(.agg #[.int .i64 ((mt : Int) + 1), .int .i64 (mt : Nat)]), fun W hW => ?_, ?_⟩
            · have q0 := (HX4.out W hW).2.1
              have q1 := (HX4.out W hW).2.2
              unfold Oper.quietAt Oper.quietUpon
              simp [go_sem, q0, q1]
            refine hK _ ?_
            clear hK K
            try simp only [Act.put, List.setIfInBounds_toArray, List.set_cons_succ, List.set_cons_zero]
            refine wpPlan_q rfl rfl rfl ?_; intro K hK
            go_big_quiet_op
            first | go_big_quiet_on | (refine ⟨_, fun _ _ => rfl, ?_⟩; go_big_quiet_on)
            refine wpPlan_q rfl rfl rfl ?_; intro K hK
            go_big_quiet_op
            first | go_big_quiet_on | (refine ⟨_, fun _ _ => rfl, ?_⟩; go_big_quiet_on)
            refine wpPlan_q rfl rfl rfl ?_; intro K hK
            go_big_quiet_op
            first | go_big_quiet_on | (refine ⟨_, fun _ _ => rfl, ?_⟩; go_big_quiet_on)
            refine wpPlan_act false rfl rfl rfl ?_; intro K hK
            refine wp_store_mid 98 (.tmp 83) (.tmp 80) rfl g (15 + k * 2) #[.int .i64 ((mt : Int) + 1), .int .i64 (mt : Nat)] rfl rfl HTH.out (by kernel_rfl) (by kernel_rfl) ?_
            refine hK _ _ (fun h => by cases h) ?_
            clear hK K
            try simp only [Act.put, List.setIfInBounds_toArray, List.set_cons_succ, List.set_cons_zero]
            refine wpPlan_fin ?_
            have hst := HR4.out.1.drew.setP (mt + 1) mt k7
            rw [show ((mt + 1 : Nat) : Int) = (mt : Int) + 1 by omega] at hst
            change RvM (w4.drew.setCells g (15 + k * 2) (#[.int .i64 ((mt : Int) + 1), .int .i64 (mt : Nat)] : Array Value).toList) _ _ _ _ _ _ ∧ Chg _ _ (w4.drew.setCells g (15 + k * 2) (#[.int .i64 ((mt : Int) + 1), .int .i64 (mt : Nat)] : Array Value).toList) at hst
            have H5 := Lib.hid hst
            clear hst
            generalize w4.drew.setCells g (15 + k * 2) (#[.int .i64 ((mt : Int) + 1), .int .i64 (mt : Nat)] : Array Value).toList = w5 at *
            have HHV : Hid (max (S.mt.getD k 0) i = mt) := Lib.hid (by rw [← HN.out.2.1]; exact HV.out)
            have HGD : Hid ((S.has k i).Good) := Lib.hid (HK.out.1.has hr HK.out.2.2 (by rw [← HN.out.1]; omega))
            have HPL : Hid (P.length = 7) := Lib.hid HS.out.pl
            have HRL : Hid (Rel (S.has k i) V (P.set k (mt + 1, mt))) := Lib.hid (HK.out.2.1.has HK.out.1 hr HK.out.2.2 HPL.out HHV.out)
            have HR5 : Hid (RvM w5 g (S.has k i) A cs V (P.set k (mt + 1, mt)) ∧ Chg (SvT g A) w w5) := Lib.hid ⟨⟨H5.out.1.top, H5.out.1.log, H5.out.1.vl, H5.out.1.pl⟩, (Chg.of_below HR4.out.2.2.drew).trans (H5.out.2.mono (fun b hb => .inl hb))⟩
            have HBX5 : Hid (Blk w5 w1.heap.size 98 #[.int .i64 ((mt : Int) + 1), .int .i64 (mt : Nat)] ∧ Blk w5 w.heap.size 34 #[.int .u8 (mk : Nat), .int .i64 (k : Nat), .int .i64 to, .int .i64 term, .int .i64 (i : Nat), .int .i64 logTerm, .slice E n c, .int .i64 commit, .bool true]) := Lib.hid ⟨HB4.out.1.drew.chg H5.out.2 (fun h => hg1 h), HR4.out.2.1.drew.chg H5.out.2 (fun h => hbg h)⟩
            have HNX : Hid ((S.has k i).agree.nx.getD k 0 = mt + 1 ∧ (S.has k i).agree.log.length = l) := by
              refine Lib.hid ⟨?_, HN.out.1.symm⟩
              show (S.nx.set k (max (S.mt.getD k 0) i + 1)).getD k 0 = _
              rw [getD_set _ _ _ _ (by rw [HK.out.1.nxl]; exact k7), if_pos rfl, HHV.out]
            rw [HV.out] at HQ1
            go_wp2_with fail
            refine (agrees_any (S.has k i) g A cs V (P.set k (mt + 1, mt)) w5 HR5.out.1 HGD.out.toOk (fun j hj => by rw [HRL.out.p hr j hj])).mono ?_
            rintro e w6 ⟨rfl, hk6⟩
            have HKC : Hid (∃ T, Chg T w5 w6 ∧ ∀ b, T b → SvT g A b) := by
              obtain ⟨_, _, _, h, _⟩ := hk6
              exact Lib.hid ⟨_, h, fun b hb => hb⟩
            obtain ⟨A6, c6, hm6, hc6, ht6⟩ := KeepsR.trans HR5.out.2 (fun a ha => .inl ⟨a, ha, rfl⟩) hk6
            have HLA : Hid (∀ b, SvT g A b → b < w.heap.size) := Lib.hid (fun b hb => HOLD.out b hb)
            have H6 := Lib.hid (And.intro hm6 (And.intro hc6 ht6))
            have HBX6 : Hid (Blk w6 w1.heap.size 98 #[.int .i64 ((mt : Int) + 1), .int .i64 (mt : Nat)] ∧ Blk w6 w.heap.size 34 #[.int .u8 (mk : Nat), .int .i64 (k : Nat), .int .i64 to, .int .i64 term, .int .i64 (i : Nat), .int .i64 logTerm, .slice E n c, .int .i64 commit, .bool true]) := by
              obtain ⟨T, h, hT⟩ := HKC.out
              exact Lib.hid ⟨HBX5.out.1.chg h (fun ht => by have := HLA.out _ (hT _ ht); have := HS1.out.2.2.size; omega), HBX5.out.2.chg h (fun ht => by have := HLA.out _ (hT _ ht); omega)⟩
            have z0 : w6.cell? ⟨w1.heap.size, 0, none⟩ = some (.int .i64 ((mt : Int) + 1)) := HBX6.out.1.cell 0
            have z4 : w6.cell? ⟨g, 4, none⟩ = some (.slice A6 l c6) := by have h := hm6.c4; rw [HNX.out.2] at h; exact h
            clear hm6 hc6 ht6 hk6
            go_wp2_with fail
            go_quiet (fail)
            clear z0 z4
            by_cases hlv : l < mt + 1
            · have d5 : decide ((l : Int) < (mt : Int) + 1) = true := decide_eq_true (by omega)
              have HQ2 : Hid ((S', ms) = ((S.has k i).agree, [])) := Lib.hid (by rw [HQ1.out, if_pos hlv])
              clear HQ1
              go_wp2_with fail
              go_ret
              have h := HQ2.out
              injection h with h1 h2
              rw [h1, h2]
              exact OutR.nil ⟨A6, c6, H6.out.1.drewN _, H6.out.2.1.drewN _, H6.out.2.2⟩ ⟨HRL.out.v, HRL.out.p⟩
            · have d5 : decide ((l : Int) < (mt : Int) + 1) = false := decide_eq_false (by omega)
              have HQ2 : Hid ((S', ms) = ((S.has k i).agree, [(S.has k i).agree.send k])) := Lib.hid (by rw [HQ1.out, if_neg hlv])
              clear HQ1
              have HR7 : Hid (RvM (w6.drewN nq) g (S.has k i).agree A6 c6 V (P.set k (mt + 1, mt)) ∧ Chg (SvT g A) w (w6.drewN nq) ∧ (∀ a, A6 = some a → (∃ a0, A = some a0 ∧ a.block = a0.block) ∨ w.heap.size ≤ a.block) ∧ Blk (w6.drewN nq) w.heap.size 34 #[.int .u8 (mk : Nat), .int .i64 (k : Nat), .int .i64 to, .int .i64 term, .int .i64 (i : Nat), .int .i64 logTerm, .slice E n c, .int .i64 commit, .bool true]) := Lib.hid ⟨H6.out.1.drewN _, H6.out.2.1.drewN _, H6.out.2.2, HBX6.out.2.below (below_drewN (Below.refl _ _) nq) HBX6.out.2.lt⟩
              generalize w6.drewN nq = w7 at *
              have z1 : w7.cell? ⟨w.heap.size, 1, none⟩ = some (.int .i64 (k : Nat)) := HR7.out.2.2.2.cell 1
              have HRA : Hid (Rel (S.has k i).agree V (P.set k (mt + 1, mt))) := Lib.hid ⟨HRL.out.v, HRL.out.p⟩
              have HSN : Hid (Calls Try.prog 82 #[.pointer (some ⟨g, 0, none⟩), .int .i64 (k : Nat)] w7 (SendPost w7 ((S.has k i).agree.send k))) := Lib.hid (appendTo_any (S.has k i).agree k g A6 c6 V _ w7 HR7.out.1 (HRA.out.p hr k HK.out.2.2) HK.out.1.len k7 (by rw [HNX.out.1]; omega) (by rw [HNX.out.1, HNX.out.2]; omega))
              go_wp2_with fail
              refine HSN.out.mono ?_
              rintro e w8 ⟨E2, c2, rfl, ho5, hb5⟩
              obtain ⟨m2, hm2⟩ : ∃ z, z = (S.has k i).agree.send k := ⟨_, rfl⟩
              have HQM := Lib.hid HQ2.out
              rw [← hm2] at ho5 HQM ⊢
              clear hm2
              have H5 := Lib.hid (And.intro ho5 hb5)
              clear ho5 hb5
              obtain ⟨p0, p1, p2, p3, p4, p5, pe, p7, p8⟩ := m2
              dsimp only [mcell] at H5 ⊢
              obtain ⟨ne, hne⟩ : ∃ z, z = pe.length := ⟨_, rfl⟩
              have HNE := Lib.hid hne
              rw [← hne] at H5 ⊢
              clear hne
              go_wp2_with (at_builtin; refine wpList_app_msg rfl (.tmp 95) (.tmp 100) rfl w8.heap.size w8.heap.size 0 0 none [] (⟨p0, p1, p2, p3, p4, p5, pe, p7, p8⟩, E2, c2) rfl (World.ownsRow_nil _ _ _ _) rfl (by rw [HNE.out]; exact heap_alloc_new w8 _) (by omega) (by simp) ?_; intro A9 c9 w9 ho9 hg9; have H9 := Lib.hid (And.intro ho9 hg9); clear ho9 hg9)
              go_ret
              have h := HQM.out
              injection h with h1 h2
              rw [h1, h2]
              have ho5 := H5.out.1
              have hg9 := H9.out.2
              rw [HNE.out] at ho5 hg9
              exact OutR.sent (m := ⟨p0, p1, p2, p3, p4, p5, pe, p7, p8⟩) ⟨A6, c6, HR7.out.1, HR7.out.2.1, HR7.out.2.2.1⟩ HRA.out ho5 H5.out.2 hg9 H9.out.1
          · have h1' : decide ((i : Int) ≤ (mt : Int)) = false := decide_eq_false h1
            have HV : Hid (max mt i = i) := Lib.hid (by omega)
            have hvl : i ≤ l := by have := HK.out.1.mtm hr k HK.out.2.2; rw [← HN.out.2.1, ← HN.out.1] at this; omega
            go_wp2_with fail
            have HB4 : Hid (Blk ((w3.setCell ⟨w1.heap.size, 1, none⟩ (.int .i64 (i : Nat))).setCell ⟨w1.heap.size, 0, none⟩ (.int .i64 ((i : Int) + 1))) w1.heap.size 98 #[.int .i64 ((i : Int) + 1), .int .i64 (i : Nat)] ∧ Chg (fun b => b = w1.heap.size) w3 ((w3.setCell ⟨w1.heap.size, 1, none⟩ (.int .i64 (i : Nat))).setCell ⟨w1.heap.size, 0, none⟩ (.int .i64 ((i : Int) + 1)))) := Lib.hid ⟨(HS3.out.2.2.2.set_ 1 _).set_ 0 _, Chg.setCell (T := fun b => b = w1.heap.size) (Chg.setCell (T := fun b => b = w1.heap.size) (Chg.refl _ _) (p := ⟨w1.heap.size, 1, none⟩) rfl _) (p := ⟨w1.heap.size, 0, none⟩) rfl _⟩
            generalize ((w3.setCell ⟨w1.heap.size, 1, none⟩ (.int .i64 (i : Nat))).setCell ⟨w1.heap.size, 0, none⟩ (.int .i64 ((i : Int) + 1))) = w4 at *
            have HR4 : Hid (RvM w4 g S A cs V P ∧ Blk w4 w.heap.size 34 #[.int .u8 (mk : Nat), .int .i64 (k : Nat), .int .i64 to, .int .i64 term, .int .i64 (i : Nat), .int .i64 logTerm, .slice E n c, .int .i64 commit, .bool true] ∧ Below w.heap.size w w4) := Lib.hid ⟨HS3.out.1.chg HB4.out.2 (fun b hb he => by have := HS1.out.1.ltT hb; omega), HS3.out.2.1.chg HB4.out.2 (fun h => hg2 h.symm), Chg.below HS3.out.2.2.1 HB4.out.2 HS3.out.2.2.1.size (fun b hb => by rw [hb]; exact HS1.out.2.2.size)⟩
            clear u0 u1 u4 uf uf1
            have HX4 : Hid (∀ W, Below w4.heap.size w4 W → W.cell? ⟨w.heap.size, 1, none⟩ = some (.int .i64 (k : Nat)) ∧ W.cell? ⟨w1.heap.size, 0, none⟩ = some (.int .i64 ((i : Int) + 1)) ∧ W.cell? ⟨w1.heap.size, 1, none⟩ = some (.int .i64 (i : Nat))) := Lib.hid (fun W hW => ⟨(HR4.out.2.1.below hW HR4.out.2.1.lt).cell 1, (HB4.out.1.below hW HB4.out.1.lt).cell 0, (HB4.out.1.below hW HB4.out.1.lt).cell 1⟩)
            have HTH : Hid (w4.drew.there g (15 + k * 2) 2) := Lib.hid (fun j hj => by
              have h := HR4.out.1.drew.cp k7
              rcases (show j = 0 ∨ j = 1 by omega) with rfl | rfl
              · exact ⟨by rw [Nat.add_zero, h.1]; rfl, HR4.out.1.drew.top.frozen _⟩
              · exact ⟨by rw [h.2]; rfl, HR4.out.1.drew.top.frozen _⟩)
            refine wp_region_plan (.q 0 (.q 1 (.q 2 (.q 3 (.q 4 (.q 5 (.q 6 (.a1 7 .fin)))))))) 7 (fun W => Below w4.heap.size w4 W) (by kernel_rfl) rfl (by kernel_rfl) (Below.refl _ _).drew ?_
            refine wpPlan_q rfl rfl rfl ?_; intro K hK
            go_big_quiet_op
            first | go_big_quiet_on | (refine ⟨_, fun _ _ => rfl, ?_⟩; go_big_quiet_on)
            refine wpPlan_q rfl rfl rfl ?_; intro K hK
            go_big_quiet_op
            first | go_big_quiet_on | (refine ⟨_, fun _ _ => rfl, ?_⟩; go_big_quiet_on)
            refine wpPlan_q rfl rfl rfl ?_; intro K hK
            refine ⟨(.int .i64 (k : Nat)), fun W hW => ?_, ?_⟩
            · have q0 := (HX4.out W hW).1
              unfold Oper.quietAt Oper.quietUpon
              simp [go_sem, q0]
            refine hK _ ?_
            clear hK K
            try simp only [Act.put, List.setIfInBounds_toArray, List.set_cons_succ, List.set_cons_zero]
            refine wpPlan_q rfl rfl rfl ?_; intro K hK
            refine ⟨(.agg #[.int .i64 ((i : Int) + 1), .int .i64 (i : Nat)]), fun W hW => ?_, ?_⟩
            · have q0 := (HX4.out W hW).2.1
              have q1 := (HX4.out W hW).2.2
              unfold Oper.quietAt Oper.quietUpon
              simp [go_sem, q0, q1]
            refine hK _ ?_
            clear hK K
            try simp only [Act.put, List.setIfInBounds_toArray, List.set_cons_succ, List.set_cons_zero]
            refine wpPlan_q rfl rfl rfl ?_; intro K hK
            go_big_quiet_op
            first | go_big_quiet_on | (refine ⟨_, fun _ _ => rfl, ?_⟩; go_big_quiet_on)
            refine wpPlan_q rfl rfl rfl ?_; intro K hK
            go_big_quiet_op
            first | go_big_quiet_on | (refine ⟨_, fun _ _ => rfl, ?_⟩; go_big_quiet_on)
            refine wpPlan_q rfl rfl rfl ?_; intro K hK
            go_big_quiet_op
            first | go_big_quiet_on | (refine ⟨_, fun _ _ => rfl, ?_⟩; go_big_quiet_on)
            refine wpPlan_act false rfl rfl rfl ?_; intro K hK
            refine wp_store_mid 98 (.tmp 83) (.tmp 80) rfl g (15 + k * 2) #[.int .i64 ((i : Int) + 1), .int .i64 (i : Nat)] rfl rfl HTH.out (by kernel_rfl) (by kernel_rfl) ?_
            refine hK _ _ (fun h => by cases h) ?_
            clear hK K
            try simp only [Act.put, List.setIfInBounds_toArray, List.set_cons_succ, List.set_cons_zero]
            refine wpPlan_fin ?_
            have hst := HR4.out.1.drew.setP (i + 1) i k7
            rw [show ((i + 1 : Nat) : Int) = (i : Int) + 1 by omega] at hst
            change RvM (w4.drew.setCells g (15 + k * 2) (#[.int .i64 ((i : Int) + 1), .int .i64 (i : Nat)] : Array Value).toList) _ _ _ _ _ _ ∧ Chg _ _ (w4.drew.setCells g (15 + k * 2) (#[.int .i64 ((i : Int) + 1), .int .i64 (i : Nat)] : Array Value).toList) at hst
            have H5 := Lib.hid hst
            clear hst
            generalize w4.drew.setCells g (15 + k * 2) (#[.int .i64 ((i : Int) + 1), .int .i64 (i : Nat)] : Array Value).toList = w5 at *
            have HHV : Hid (max (S.mt.getD k 0) i = i) := Lib.hid (by rw [← HN.out.2.1]; exact HV.out)
            have HGD : Hid ((S.has k i).Good) := Lib.hid (HK.out.1.has hr HK.out.2.2 (by rw [← HN.out.1]; omega))
            have HPL : Hid (P.length = 7) := Lib.hid HS.out.pl
            have HRL : Hid (Rel (S.has k i) V (P.set k (i + 1, i))) := Lib.hid (HK.out.2.1.has HK.out.1 hr HK.out.2.2 HPL.out HHV.out)
            have HR5 : Hid (RvM w5 g (S.has k i) A cs V (P.set k (i + 1, i)) ∧ Chg (SvT g A) w w5) := Lib.hid ⟨⟨H5.out.1.top, H5.out.1.log, H5.out.1.vl, H5.out.1.pl⟩, (Chg.of_below HR4.out.2.2.drew).trans (H5.out.2.mono (fun b hb => .inl hb))⟩
            have HBX5 : Hid (Blk w5 w1.heap.size 98 #[.int .i64 ((i : Int) + 1), .int .i64 (i : Nat)] ∧ Blk w5 w.heap.size 34 #[.int .u8 (mk : Nat), .int .i64 (k : Nat), .int .i64 to, .int .i64 term, .int .i64 (i : Nat), .int .i64 logTerm, .slice E n c, .int .i64 commit, .bool true]) := Lib.hid ⟨HB4.out.1.drew.chg H5.out.2 (fun h => hg1 h), HR4.out.2.1.drew.chg H5.out.2 (fun h => hbg h)⟩
            have HNX : Hid ((S.has k i).agree.nx.getD k 0 = i + 1 ∧ (S.has k i).agree.log.length = l) := by
              refine Lib.hid ⟨?_, HN.out.1.symm⟩
              show (S.nx.set k (max (S.mt.getD k 0) i + 1)).getD k 0 = _
              rw [getD_set _ _ _ _ (by rw [HK.out.1.nxl]; exact k7), if_pos rfl, HHV.out]
            rw [HV.out] at HQ1
            go_wp2_with fail
            refine (agrees_any (S.has k i) g A cs V (P.set k (i + 1, i)) w5 HR5.out.1 HGD.out.toOk (fun j hj => by rw [HRL.out.p hr j hj])).mono ?_
            rintro e w6 ⟨rfl, hk6⟩
            have HKC : Hid (∃ T, Chg T w5 w6 ∧ ∀ b, T b → SvT g A b) := by
              obtain ⟨_, _, _, h, _⟩ := hk6
              exact Lib.hid ⟨_, h, fun b hb => hb⟩
            obtain ⟨A6, c6, hm6, hc6, ht6⟩ := KeepsR.trans HR5.out.2 (fun a ha => .inl ⟨a, ha, rfl⟩) hk6
            have HLA : Hid (∀ b, SvT g A b → b < w.heap.size) := Lib.hid (fun b hb => HOLD.out b hb)
            have H6 := Lib.hid (And.intro hm6 (And.intro hc6 ht6))
            have HBX6 : Hid (Blk w6 w1.heap.size 98 #[.int .i64 ((i : Int) + 1), .int .i64 (i : Nat)] ∧ Blk w6 w.heap.size 34 #[.int .u8 (mk : Nat), .int .i64 (k : Nat), .int .i64 to, .int .i64 term, .int .i64 (i : Nat), .int .i64 logTerm, .slice E n c, .int .i64 commit, .bool true]) := by
              obtain ⟨T, h, hT⟩ := HKC.out
              exact Lib.hid ⟨HBX5.out.1.chg h (fun ht => by have := HLA.out _ (hT _ ht); have := HS1.out.2.2.size; omega), HBX5.out.2.chg h (fun ht => by have := HLA.out _ (hT _ ht); omega)⟩
            have z0 : w6.cell? ⟨w1.heap.size, 0, none⟩ = some (.int .i64 ((i : Int) + 1)) := HBX6.out.1.cell 0
            have z4 : w6.cell? ⟨g, 4, none⟩ = some (.slice A6 l c6) := by have h := hm6.c4; rw [HNX.out.2] at h; exact h
            clear hm6 hc6 ht6 hk6
            go_wp2_with fail
            go_quiet (fail)
            clear z0 z4
            by_cases hlv : l < i + 1
            · have d5 : decide ((l : Int) < (i : Int) + 1) = true := decide_eq_true (by omega)
              have HQ2 : Hid ((S', ms) = ((S.has k i).agree, [])) := Lib.hid (by rw [HQ1.out, if_pos hlv])
              clear HQ1
              go_wp2_with fail
              go_ret
              have h := HQ2.out
              injection h with h1 h2
              rw [h1, h2]
              exact OutR.nil ⟨A6, c6, H6.out.1.drewN _, H6.out.2.1.drewN _, H6.out.2.2⟩ ⟨HRL.out.v, HRL.out.p⟩
            · have d5 : decide ((l : Int) < (i : Int) + 1) = false := decide_eq_false (by omega)
              have HQ2 : Hid ((S', ms) = ((S.has k i).agree, [(S.has k i).agree.send k])) := Lib.hid (by rw [HQ1.out, if_neg hlv])
              clear HQ1
              have HR7 : Hid (RvM (w6.drewN nq) g (S.has k i).agree A6 c6 V (P.set k (i + 1, i)) ∧ Chg (SvT g A) w (w6.drewN nq) ∧ (∀ a, A6 = some a → (∃ a0, A = some a0 ∧ a.block = a0.block) ∨ w.heap.size ≤ a.block) ∧ Blk (w6.drewN nq) w.heap.size 34 #[.int .u8 (mk : Nat), .int .i64 (k : Nat), .int .i64 to, .int .i64 term, .int .i64 (i : Nat), .int .i64 logTerm, .slice E n c, .int .i64 commit, .bool true]) := Lib.hid ⟨H6.out.1.drewN _, H6.out.2.1.drewN _, H6.out.2.2, HBX6.out.2.below (below_drewN (Below.refl _ _) nq) HBX6.out.2.lt⟩
              generalize w6.drewN nq = w7 at *
              have z1 : w7.cell? ⟨w.heap.size, 1, none⟩ = some (.int .i64 (k : Nat)) := HR7.out.2.2.2.cell 1
              have HRA : Hid (Rel (S.has k i).agree V (P.set k (i + 1, i))) := Lib.hid ⟨HRL.out.v, HRL.out.p⟩
              have HSN : Hid (Calls Try.prog 82 #[.pointer (some ⟨g, 0, none⟩), .int .i64 (k : Nat)] w7 (SendPost w7 ((S.has k i).agree.send k))) := Lib.hid (appendTo_any (S.has k i).agree k g A6 c6 V _ w7 HR7.out.1 (HRA.out.p hr k HK.out.2.2) HK.out.1.len k7 (by rw [HNX.out.1]; omega) (by rw [HNX.out.1, HNX.out.2]; omega))
              go_wp2_with fail
              refine HSN.out.mono ?_
              rintro e w8 ⟨E2, c2, rfl, ho5, hb5⟩
              obtain ⟨m2, hm2⟩ : ∃ z, z = (S.has k i).agree.send k := ⟨_, rfl⟩
              have HQM := Lib.hid HQ2.out
              rw [← hm2] at ho5 HQM ⊢
              clear hm2
              have H5 := Lib.hid (And.intro ho5 hb5)
              clear ho5 hb5
              obtain ⟨p0, p1, p2, p3, p4, p5, pe, p7, p8⟩ := m2
              dsimp only [mcell] at H5 ⊢
              obtain ⟨ne, hne⟩ : ∃ z, z = pe.length := ⟨_, rfl⟩
              have HNE := Lib.hid hne
              rw [← hne] at H5 ⊢
              clear hne
              go_wp2_with (at_builtin; refine wpList_app_msg rfl (.tmp 95) (.tmp 100) rfl w8.heap.size w8.heap.size 0 0 none [] (⟨p0, p1, p2, p3, p4, p5, pe, p7, p8⟩, E2, c2) rfl (World.ownsRow_nil _ _ _ _) rfl (by rw [HNE.out]; exact heap_alloc_new w8 _) (by omega) (by simp) ?_; intro A9 c9 w9 ho9 hg9; have H9 := Lib.hid (And.intro ho9 hg9); clear ho9 hg9)
              go_ret
              have h := HQM.out
              injection h with h1 h2
              rw [h1, h2]
              have ho5 := H5.out.1
              have hg9 := H9.out.2
              rw [HNE.out] at ho5 hg9
              exact OutR.sent (m := ⟨p0, p1, p2, p3, p4, p5, pe, p7, p8⟩) ⟨A6, c6, HR7.out.1, HR7.out.2.1, HR7.out.2.2.1⟩ HRA.out ho5 H5.out.2 hg9 H9.out.1
    · have b2 : (term != S.term) = true := by simp [ht]
      have HQ1 : Hid ((S', ms) = (S, [])) := Lib.hid (by rw [HQ.out, if_pos (.inr (.inl ht))])
      clear HQ
      go_quiet (fail)
      go_wp2_with fail
      go_ret
      have h := HQ1.out
      injection h with h1 h2
      rw [h1, h2]
      exact OutR.nil ⟨A, cs, HS.out.drewN _, .of_below (below_drewN HBX.out.1 _), fun a ha => .inl ⟨a, ha, rfl⟩⟩ HK.out.2.1
  · have b1 : ((S.role : Int) != 2) = true := by simp; omega
    have HQ1 : Hid ((S', ms) = (S, [])) := Lib.hid (by rw [HQ.out, if_pos (.inl hr)])
    clear HQ
    go_quiet (fail)
    go_wp2_with fail
    go_ret
    have h := HQ1.out
    injection h with h1 h2
    rw [h1, h2]
    exact OutR.nil ⟨A, cs, HS.out.drewN _, .of_below (below_drewN HBX.out.1 _), fun a ha => .inl ⟨a, ha, rfl⟩⟩ HK.out.2.1
end Go.Proofs.Ytjodglepaeomiaa
