/- Contract of the document's Handle. -/
import Derived.Test.YtjodglepaeomiaaRhw
import Derived.Test.YtjodglepaeomiaaRto
namespace Go.Proofs.Ytjodglepaeomiaa
open Go.RowKit

theorem Rel.up {S : Sv} {V : List Bool} {P : List (Nat × Nat)} (h : Rel S V P) (m : Mg) : Rel (S.up m) V P := by
  unfold Sv.up
  split
  · exact Rel.foll rfl
  · exact h
theorem Rel.vote {S : Sv} {V : List Bool} {P : List (Nat × Nat)} (h : Rel S V P) (hv : V.length = 7) (hr : S.role = 1) {k : Nat} (hk : k < 7) : Rel (S.vote1 k) (V.set k true) P := by
  refine ⟨fun _ j hj => ?_, fun e => absurd ((show S.role = 2 from e).symm.trans hr) (by decide)⟩
  show _ = (S.voters ||| 2 ^ k).testBit j
  rw [Nat.testBit_or, Nat.testBit_two_pow, ← h.v hr j hj]
  by_cases hjk : k = j
  · rw [hjk, List.getD_eq_getElem?_getD, List.getElem?_set_self (by omega)]; simp
  · rw [List.getD_eq_getElem?_getD, List.getElem?_set_ne hjk, ← List.getD_eq_getElem?_getD]; simp [hjk]

set_option maxRecDepth 100000 in
set_option maxHeartbeats 16000000 in
theorem handle_r (S : Sv) (m : Mg) (g : Nat) (A E : Option Addr) (cs c : Nat) (V : List Bool) (P : List (Nat × Nat)) (w : World) (hS : RvM w g S A cs V P) (hr : Rel S V P) (hok : S.Full) (hm : MgOk m) (hrd : RdE w E m.ents) (hE : ∀ a, E = some a → m.ents ≠ [] → a.block ≠ g) (hnc : m.ents.length ≤ c) (hE0 : E = none → c = 0) :
    Calls Try.prog 61 #[.pointer (some ⟨g, 0, none⟩), .agg (mcell E c m).toArray] w (OutR w g A (S.handle m).1 (S.handle m).2) := by
  have hbx : Below w.heap.size w (w.alloc (mbox E c m)) := (Below.refl _ w).alloc (Nat.le_refl _) _
  have HHR := Lib.hid (heard_r S m g A E cs c V P (w.alloc (mbox E c m)) (hS.below hbx) (hrd.below hbx) hm)
  have HQ := Lib.hid (show S.handle m = if S.hears m then (S.up m).does m else (S, []) from rfl)
  have HHD := Lib.hid (fun h => heard (S := S) (m := m) h)
  have HC1 := Lib.hid (fun S2 W (h : RvM W g S2 A cs V P) (hr : Rel S2 V P) hl => ask_r S2 m g A E cs c V P W h hr hl)
  have HC3 := Lib.hid (fun (S2 : Sv) W (h : RvM W g S2 A cs V P) (hr : Rel S2 V P) (hok : S2.Full) (hrd : RdE W E m.ents) (hh : Heard S2 m) => append_r S2 m g m.index.toNat m.commit.toNat A E cs c V P W h hr hok.toGood hrd hE hnc hE0 (Int.toNat_of_nonneg hh.i0).symm (Int.toNat_of_nonneg hh.c0).symm (by have := hh.len; have := hh.i0; omega))
  have HC4 := Lib.hid (fun (S2 : Sv) W (h : RvM W g S2 A cs V P) (hr : Rel S2 V P) (hok : S2.Full) (hh : Heard S2 m) => told_r S2 m g m.frm.toNat m.index.toNat A E cs c V P W h hr hok.toGood (Int.toNat_of_nonneg hh.frm0).symm (by have := hh.frm0; have := hh.frm1; omega) (Int.toNat_of_nonneg hh.i0).symm (by have := hh.i1; omega))
  have HARG := Lib.hid (And.intro hS (And.intro hrd (And.intro hE (And.intro hok hr))))
  obtain ⟨S', ms, hq'⟩ : ∃ (S' : Sv) (ms : List Mg), S.handle m = (S', ms) := ⟨_, _, rfl⟩
  rw [hq'] at HQ ⊢
  clear hq'
  obtain ⟨R, hR⟩ : ∃ b, b = S.hears m := ⟨_, rfl⟩
  rw [← hR] at HQ HHR HHD
  clear hR
  obtain ⟨S2, hS2⟩ : ∃ z, z = S.up m := ⟨_, rfl⟩
  have HU := Lib.hid (show S2 = (if S.term < m.term then S.low m.term else S) from hS2)
  have HS2 := Lib.hid hS2
  rw [← hS2] at HQ
  clear hS2
  obtain ⟨M, hM⟩ : ∃ z, z = m := ⟨_, rfl⟩
  have HM := Lib.hid hM
  rw [← hM] at HQ HHD HS2
  clear hM
  dsimp only
  obtain ⟨mk, frm, dst, term, index, logTerm, ents, commit, mok⟩ := m
  dsimp only [mcell, mbox] at HHR HC1 HC3 HC4 HU HARG hrd hE hnc hbx ⊢
  clear hbx
  rw [← HM.out] at HC1 HC3 HC4
  obtain ⟨n, hn⟩ : ∃ z, z = ents.length := ⟨_, rfl⟩
  rw [← hn] at HHR HC1 HC3 HC4 hnc ⊢
  clear hn hE hE0 hnc hm
  have HBX : Hid (Below w.heap.size w (w.alloc (.cells #[.int .u8 (mk : Nat), .int .i64 frm, .int .i64 dst, .int .i64 term, .int .i64 index, .int .i64 logTerm, .slice E n c, .int .i64 commit, .bool mok] 34)) ∧ Blk (w.alloc (.cells #[.int .u8 (mk : Nat), .int .i64 frm, .int .i64 dst, .int .i64 term, .int .i64 index, .int .i64 logTerm, .slice E n c, .int .i64 commit, .bool mok] 34)) w.heap.size 34 #[.int .u8 (mk : Nat), .int .i64 frm, .int .i64 dst, .int .i64 term, .int .i64 index, .int .i64 logTerm, .slice E n c, .int .i64 commit, .bool mok]) := ⟨(Below.refl _ w).alloc (Nat.le_refl _) _, Blk.new _ _ _⟩
  have hbg : ¬ w.heap.size = g := by have := hS.lt; omega
  clear hS hok hrd hr
  go_enter Try.func61, Try.ntmps61
  go_wp2_with (first | (refine wpList_load_row rfl 34 _ rfl w.heap.size rfl 34 #[.int .u8 (mk : Nat), .int .i64 frm, .int .i64 dst, .int .i64 term, .int .i64 index, .int .i64 logTerm, .slice E n c, .int .i64 commit, .bool mok] (0, 0) _ HBX.out.2 Try.underlying34 rfl (by kernel_rfl) ?_) | fail)
  refine HHR.out.mono ?_
  rintro e w1 ⟨rfl, hb1⟩
  have HB1 : Hid (Below w.heap.size w w1 ∧ Blk w1 w.heap.size 34 #[.int .u8 (mk : Nat), .int .i64 frm, .int .i64 dst, .int .i64 term, .int .i64 index, .int .i64 logTerm, .slice E n c, .int .i64 commit, .bool mok]) := Lib.hid ⟨HBX.out.1.trans (hb1.mono HBX.out.1.size), HBX.out.2.below hb1 HBX.out.2.lt⟩
  clear hb1 HBX HHR
  cases R
  · have HQ1 : Hid ((S', ms) = (S, [])) := Lib.hid HQ.out
    clear HQ
    go_wp2_with fail
    go_ret
    have h := HQ1.out
    injection h with h1 h2
    rw [h1, h2]
    exact OutR.nil ⟨A, cs, HARG.out.1.below HB1.out.1, .of_below HB1.out.1, fun a ha => .inl ⟨a, ha, rfl⟩⟩ HARG.out.2.2.2.2
  · have HQ1 : Hid ((S', ms) = S2.does M) := Lib.hid HQ.out
    have HH := Lib.hid (HHD.out rfl)
    have HHU : Hid (Heard S2 M) := by rw [HS2.out]; exact Lib.hid HH.out.up
    have HFU : Hid (S2.Full) := by rw [HS2.out]; exact Lib.hid (HARG.out.2.2.2.1.up HH.out)
    have HRU : Hid (Rel S2 V P) := by rw [HS2.out]; exact Lib.hid (HARG.out.2.2.2.2.up M)
    clear HQ HHD
    have x3 : w1.cell? ⟨w.heap.size, 3, none⟩ = some (.int .i64 term) := HB1.out.2.cell 3
    have c2 := (HARG.out.1.below HB1.out.1).c2
    go_wp2_with fail
    go_quiet (fail)
    have HB2 : Hid (Below w.heap.size w (w1.drewN nq) ∧ Blk (w1.drewN nq) w.heap.size 34 #[.int .u8 (mk : Nat), .int .i64 frm, .int .i64 dst, .int .i64 term, .int .i64 index, .int .i64 logTerm, .slice E n c, .int .i64 commit, .bool mok]) := Lib.hid ⟨below_drewN HB1.out.1 _, HB1.out.2.drewN _⟩
    generalize w1.drewN nq = w2 at *
    clear x3 c2 HB1
    have x3 : w2.cell? ⟨w.heap.size, 3, none⟩ = some (.int .i64 term) := HB2.out.2.cell 3
    have HR2 : Hid (RvM w2 g S A cs V P ∧ RdE w2 E ents) := Lib.hid ⟨HARG.out.1.below HB2.out.1, HARG.out.2.1.below HB2.out.1⟩
    have c2 := HR2.out.1.c2
    have c3 := HR2.out.1.c3
    have c5 := HR2.out.1.c5
    have c6 := HR2.out.1.c6
    have f2 : w2.frozen? ⟨g, 2, none⟩ = false := HR2.out.1.top.frozen 2
    have f3 : w2.frozen? ⟨g, 3, none⟩ = false := HR2.out.1.top.frozen 3
    have f5 : w2.frozen? ⟨g, 5, none⟩ = false := HR2.out.1.top.frozen 5
    have f6 : w2.frozen? ⟨g, 6, none⟩ = false := HR2.out.1.top.frozen 6
    go_upto_if 16 with fail
    go_cut [4] (fun s4 wx => s4 = .slice none 0 0 ∧ RvM wx g S2 A cs V P ∧ Chg (SvT g A) w wx ∧ Blk wx w.heap.size 34 #[.int .u8 (mk : Nat), .int .i64 frm, .int .i64 dst, .int .i64 term, .int .i64 index, .int .i64 logTerm, .slice E n c, .int .i64 commit, .bool mok] ∧ RdE wx E ents)
    case first =>
      by_cases hlt : S.term < term
      · have d1 : decide (S.term < term) = true := decide_eq_true hlt
        have HU2 : Hid (S2 = S.low term) := Lib.hid (by rw [HU.out, if_pos hlt])
        go_wp2_with fail
        go_meet
        rw [HU2.out]
        have s2 := HR2.out.1.set (S' := { S with term := term }) 2 (.int .i64 term) rfl HR2.out.1.vl HR2.out.1.pl rfl
        have s3 := s2.1.set (S' := { S with term := term, vote := -1 }) 3 (.int .i64 (-1)) rfl HR2.out.1.vl HR2.out.1.pl rfl
        have s5 := s3.1.set (S' := { S with term := term, vote := -1, role := 0 }) 5 (.int .u8 0) rfl HR2.out.1.vl HR2.out.1.pl rfl
        have s6 := s5.1.set (S' := S.low term) 6 (.int .i64 (-1)) rfl HR2.out.1.vl HR2.out.1.pl rfl
        have hch := s2.2.trans (s3.2.trans (s5.2.trans s6.2))
        exact ⟨rfl, s6.1, (Chg.of_below HB2.out.1).trans (hch.mono (fun b hb => .inl hb)), HB2.out.2.chg hch (fun h => hbg h), HR2.out.2.chg hch (fun a ha hne he => HARG.out.2.2.1 a ha hne he)⟩
      · have d1 : decide (S.term < term) = false := decide_eq_false hlt
        have HU2 : Hid (S2 = S) := Lib.hid (by rw [HU.out, if_neg hlt])
        go_wp2_with fail
        go_meet
        rw [HU2.out]
        exact ⟨rfl, HR2.out.1, .of_below HB2.out.1, HB2.out.2, HR2.out.2⟩
    case rest =>
      obtain ⟨rfl, hm3, hc3, hbk3, hrd3⟩ := hcut
      have H3 := Lib.hid (And.intro hm3 (And.intro hc3 (And.intro hbk3 hrd3)))
      clear hm3 hc3 hbk3 hrd3 x3 c2 c3 c5 c6 f2 f3 f5 f6 HB2 HR2 HU
      have x0 : wc.cell? ⟨w.heap.size, 0, none⟩ = some (.int .u8 (mk : Nat)) := H3.out.2.2.1.cell 0
      have hmk : mk = 1 ∨ mk = 2 ∨ mk = 3 ∨ mk = 4 := by have := HH.out.kind; rw [HM.out] at this; exact this
      have HMK := Lib.hid hmk
      clear hmk
      by_cases k1 : mk = 1
      · have m1 : ((mk : Int) == 1) = true := by simp [k1]
        have HQ2 : Hid ((S', ms) = S2.asked M) := Lib.hid (by rw [HQ1.out]; unfold Sv.does; rw [if_pos (by rw [HM.out]; exact k1)])
        clear k1 HQ1
        go_wp2_with (first | (refine wpList_load_row rfl 34 _ rfl w.heap.size rfl 34 #[.int .u8 (mk : Nat), .int .i64 frm, .int .i64 dst, .int .i64 term, .int .i64 index, .int .i64 logTerm, .slice E n c, .int .i64 commit, .bool mok] (0, 0) _ H3.out.2.2.1 Try.underlying34 rfl (by kernel_rfl) ?_) | fail)
        refine (HC1.out S2 wc H3.out.1 HRU.out HFU.out.len).mono ?_
        intro e w9 ho
        have HO : Hid (OutR w g A (S2.asked M).1 (S2.asked M).2 e w9) := Lib.hid (OutR.after H3.out.2.1 (fun a ha => .inl ⟨a, ha, rfl⟩) ho)
        clear ho
        have HE : Hid (∃ D d, e = .returned (.slice D (S2.asked M).2.length d)) := by
          obtain ⟨_, _, _, _, _, D, d, _, _, _, _, _, _, he, _⟩ := HO.out
          exact Lib.hid ⟨D, d, he⟩
        obtain ⟨D, d, he⟩ := HE.out
        subst he
        generalize hln : (S2.asked M).2.length = ln at *
        clear HE hln
        go_wp2_with fail
        go_ret
        have h := HQ2.out
        rw [← h] at HO
        exact HO.out
      by_cases k2 : mk = 2
      · have m1 : ((mk : Int) == 1) = false := by simp; omega
        have m2 : ((mk : Int) == 2) = true := by simp [k2]
        have HQ2 : Hid ((S', ms) = if S2.role ≠ 1 ∨ term ≠ S2.term ∨ mok = false then (S2, [])
  else if 2 * ones (S2.vote1 frm.toNat).voters 7 ≤ S2.n then (S2.vote1 frm.toNat, [])
  else ((S2.vote1 frm.toNat).lead, (S2.vote1 frm.toNat).lead.outs)) := Lib.hid (by rw [HQ1.out]; unfold Sv.does; rw [if_neg (by rw [HM.out]; exact k1), if_pos (by rw [HM.out]; exact k2), HM.out]; rfl)
        clear k1 k2 HQ1 HMK
        obtain ⟨fk, hfk, hfn⟩ : ∃ fk : Nat, frm = (fk : Nat) ∧ fk < S2.n := ⟨frm.toNat, by have := HHU.out.frm0; rw [HM.out] at this; exact (Int.toNat_of_nonneg this).symm, by have := HHU.out.frm0; have h1 := HHU.out.frm1; rw [HM.out] at this h1; dsimp only at this h1; omega⟩
        subst hfk
        rw [Int.toNat_natCast] at HQ2
        have HFN := Lib.hid hfn
        have hf7 : fk < 7 := by have := HFU.out.n; omega
        have hf7' : (fk : Int) < 7 := by omega
        have hf0 : (0 : Int) ≤ (fk : Int) := by omega
        clear hfn
        have x1 : wc.cell? ⟨w.heap.size, 1, none⟩ = some (.int .i64 (fk : Nat)) := H3.out.2.2.1.cell 1
        have x3 : wc.cell? ⟨w.heap.size, 3, none⟩ = some (.int .i64 term) := H3.out.2.2.1.cell 3
        have x8 : wc.cell? ⟨w.heap.size, 8, none⟩ = some (.bool mok) := H3.out.2.2.1.cell 8
        have c2 := H3.out.1.c2
        have c5 := H3.out.1.c5
        by_cases hr1 : S2.role = 1
        · have b1 : ((S2.role : Int) != 1) = false := by rw [hr1]; rfl
          by_cases ht : term = S2.term
          · have b2 : (term != S2.term) = false := by simp [ht]
            cases mok
            · have HQ3 : Hid ((S', ms) = (S2, [])) := Lib.hid (by rw [HQ2.out, if_pos (.inr (.inr rfl))])
              clear HQ2
              go_wp2_with fail
              go_quiet (fail)
              go_wp2_with fail
              go_ret
              have h := HQ3.out
              injection h with h1 h2
              rw [h1, h2]
              exact OutR.nil ⟨A, cs, H3.out.1.drewN _, H3.out.2.1.drewN _, fun a ha => .inl ⟨a, ha, rfl⟩⟩ HRU.out
            · have HQ3 : Hid ((S', ms) = if 2 * ones (S2.vote1 fk).voters 7 ≤ S2.n then (S2.vote1 fk, [])
  else ((S2.vote1 fk).lead, (S2.vote1 fk).lead.outs)) := Lib.hid (by rw [HQ2.out, if_neg (fun h => h.elim (fun h => h hr1) (fun h => h.elim (fun h => h ht) (fun h => by cases h)))])
              clear HQ2
              go_wp2_with fail
              go_quiet (fail)
              have H4 : Hid (RvM (wc.drewN nq) g S2 A cs V P ∧ Chg (SvT g A) w (wc.drewN nq) ∧ Blk (wc.drewN nq) w.heap.size 34 #[.int .u8 (mk : Nat), .int .i64 (fk : Nat), .int .i64 dst, .int .i64 term, .int .i64 index, .int .i64 logTerm, .slice E n c, .int .i64 commit, .bool true]) := Lib.hid ⟨H3.out.1.drewN _, H3.out.2.1.drewN _, H3.out.2.2.1.drewN _⟩
              generalize wc.drewN nq = w4 at *
              clear x0 x1 x3 x8 c2 c5 b1 b2
              have x1 : w4.cell? ⟨w.heap.size, 1, none⟩ = some (.int .i64 (fk : Nat)) := H4.out.2.2.cell 1
              have v1 := H4.out.1.cv hf7
              have f1 : w4.frozen? ⟨g, 8 + fk, none⟩ = false := H4.out.1.top.frozen _
              go_wp2_with fail
              go_region
              have hst := H4.out.1.setV true hf7
              have H5 : Hid (RvM (w4.setCell ⟨g, 8 + fk, none⟩ (.bool true)).drew g (S2.vote1 fk) A cs (V.set fk true) P ∧ Chg (SvT g A) w (w4.setCell ⟨g, 8 + fk, none⟩ (.bool true)).drew) := Lib.hid ⟨(show RvM _ g (S2.vote1 fk) A cs _ P from ⟨hst.1.top, hst.1.log, hst.1.vl, hst.1.pl⟩ : RvM (w4.setCell ⟨g, 8 + fk, none⟩ (.bool true)) g (S2.vote1 fk) A cs (V.set fk true) P).drew, (H4.out.2.1.trans (hst.2.mono (fun b hb => .inl hb))).drewN 1⟩
              clear hst
              generalize (w4.setCell ⟨g, 8 + fk, none⟩ (.bool true)).drew = w5 at *
              have HV5 : Hid ((S2.vote1 fk).Full) := Lib.hid ⟨⟨⟨HFU.out.id, HFU.out.n, HFU.out.t0, HFU.out.t1, HFU.out.v0, HFU.out.v1, HFU.out.len, HFU.out.log, HFU.out.role, HFU.out.l0, HFU.out.l1, HFU.out.com, Nat.or_lt_two_pow (n := 7) HFU.out.vot (Nat.pow_lt_pow_right (by decide) hf7), HFU.out.nxl, HFU.out.mtl, HFU.out.nx4, HFU.out.mt4, HFU.out.nx1, HFU.out.nxm, HFU.out.mtm⟩, HFU.out.t2⟩, Nat.or_lt_two_pow HFU.out.vn (Nat.pow_lt_pow_right (by decide) HFN.out)⟩
              have HRV : Hid (Rel (S2.vote1 fk) (V.set fk true) P) := Lib.hid (HRU.out.vote H3.out.1.vl hr1 hf7)
              have HCT : Hid (vcount (V.set fk true) S2.n = ones (S2.vote1 fk).voters 7) := Lib.hid ((vcount_ones (n := S2.n) (fun j hj => HRV.out.v hr1 j hj) S2.n HFU.out.n).trans (ones_high HV5.out.vn 7 HFU.out.n).symm)
              clear x1 v1 f1
              go_wp2_with fail
              refine (majority_any (S2.vote1 fk) g A cs (V.set fk true) P w5 H5.out.1 HFU.out.n).mono ?_
              rintro e w6 ⟨rfl, rfl⟩
              have HCT2 : Hid (decide ((S2.vote1 fk).n < 2 * vcount (V.set fk true) (S2.vote1 fk).n) = decide (S2.n < 2 * ones (S2.vote1 fk).voters 7)) := by
                show Hid (decide (S2.n < 2 * vcount (V.set fk true) S2.n) = _)
                rw [HCT.out]; exact Lib.hid rfl
              rw [HCT2.out]
              by_cases hmaj : S2.n < 2 * ones (S2.vote1 fk).voters 7
              · rw [decide_eq_true hmaj]
                have HQ4 : Hid ((S', ms) = ((S2.vote1 fk).lead, (S2.vote1 fk).lead.outs)) := Lib.hid (by rw [HQ3.out, if_neg (by omega)])
                clear HQ3 hmaj
                go_wp2_with fail
                refine (leads_any (S2.vote1 fk) g A cs (V.set fk true) P _ H5.out.1 HV5.out.toGood (by show 1 ≤ S2.term; rw [← ht]; have := HHU.out.t1; rw [HM.out] at this; exact this)).mono ?_
                intro e w9 ho
                have HO : Hid (OutR w g A (S2.vote1 fk).lead (S2.vote1 fk).lead.outs e w9) := Lib.hid (OutR.after H5.out.2 (fun a ha => .inl ⟨a, ha, rfl⟩) ho)
                clear ho
                have HE : Hid (∃ D d, e = .returned (.slice D (S2.vote1 fk).lead.outs.length d)) := by
                  obtain ⟨_, _, _, _, _, D, d, _, _, _, _, _, _, he, _⟩ := HO.out
                  exact Lib.hid ⟨D, d, he⟩
                obtain ⟨D, d, he⟩ := HE.out
                subst he
                generalize hln : (S2.vote1 fk).lead.outs.length = ln at *
                clear HE hln
                go_wp2_with fail
                go_ret
                have h := HQ4.out
                injection h with h1 h2
                rw [h1, h2]
                exact HO.out
              · rw [decide_eq_false hmaj]
                have HQ4 : Hid ((S', ms) = (S2.vote1 fk, [])) := Lib.hid (by rw [HQ3.out, if_pos (by omega)])
                clear HQ3 hmaj
                go_wp2_with fail
                go_ret
                have h := HQ4.out
                injection h with h1 h2
                rw [h1, h2]
                exact OutR.nil ⟨A, cs, H5.out.1, H5.out.2, fun a ha => .inl ⟨a, ha, rfl⟩⟩ HRV.out
          · have b2 : (term != S2.term) = true := by simp [ht]
            clear x8
            have HQ3 : Hid ((S', ms) = (S2, [])) := Lib.hid (by rw [HQ2.out, if_pos (.inr (.inl ht))])
            clear HQ2
            go_wp2_with fail
            go_quiet (fail)
            go_wp2_with fail
            go_ret
            have h := HQ3.out
            injection h with h1 h2
            rw [h1, h2]
            exact OutR.nil ⟨A, cs, H3.out.1.drewN _, H3.out.2.1.drewN _, fun a ha => .inl ⟨a, ha, rfl⟩⟩ HRU.out
        · have b1 : ((S2.role : Int) != 1) = true := by simp; omega
          clear x8 x3 c2
          have HQ3 : Hid ((S', ms) = (S2, [])) := Lib.hid (by rw [HQ2.out, if_pos (.inl hr1)])
          clear HQ2
          go_wp2_with fail
          go_quiet (fail)
          go_wp2_with fail
          go_ret
          have h := HQ3.out
          injection h with h1 h2
          rw [h1, h2]
          exact OutR.nil ⟨A, cs, H3.out.1.drewN _, H3.out.2.1.drewN _, fun a ha => .inl ⟨a, ha, rfl⟩⟩ HRU.out
      by_cases k3 : mk = 3
      · have m1 : ((mk : Int) == 1) = false := by simp; omega
        have m2 : ((mk : Int) == 2) = false := by simp; omega
        have m3 : ((mk : Int) == 3) = true := by simp [k3]
        have HQ2 : Hid ((S', ms) = S2.appended M) := Lib.hid (by rw [HQ1.out]; unfold Sv.does; rw [if_neg (by rw [HM.out]; exact k1), if_neg (by rw [HM.out]; exact k2), if_pos (by rw [HM.out]; exact k3)])
        clear k1 k2 k3 HQ1
        go_wp2_with (first | (refine wpList_load_row rfl 34 _ rfl w.heap.size rfl 34 #[.int .u8 (mk : Nat), .int .i64 frm, .int .i64 dst, .int .i64 term, .int .i64 index, .int .i64 logTerm, .slice E n c, .int .i64 commit, .bool mok] (0, 0) _ H3.out.2.2.1 Try.underlying34 rfl (by kernel_rfl) ?_) | fail)
        refine (HC3.out S2 wc H3.out.1 HRU.out HFU.out H3.out.2.2.2 HHU.out).mono ?_
        intro e w9 ho
        have HO : Hid (OutR w g A (S2.appended M).1 (S2.appended M).2 e w9) := Lib.hid (OutR.after H3.out.2.1 (fun a ha => .inl ⟨a, ha, rfl⟩) ho)
        clear ho
        have HE : Hid (∃ D d, e = .returned (.slice D (S2.appended M).2.length d)) := by
          obtain ⟨_, _, _, _, _, D, d, _, _, _, _, _, _, he, _⟩ := HO.out
          exact Lib.hid ⟨D, d, he⟩
        obtain ⟨D, d, he⟩ := HE.out
        subst he
        generalize hln : (S2.appended M).2.length = ln at *
        clear HE hln
        go_wp2_with fail
        go_ret
        have h := HQ2.out
        rw [← h] at HO
        exact HO.out
      · have m1 : ((mk : Int) == 1) = false := by simp; omega
        have m2 : ((mk : Int) == 2) = false := by simp; omega
        have m3 : ((mk : Int) == 3) = false := by simp; omega
        have HQ2 : Hid ((S', ms) = S2.told M) := Lib.hid (by rw [HQ1.out]; unfold Sv.does; rw [if_neg (by rw [HM.out]; exact k1), if_neg (by rw [HM.out]; exact k2), if_neg (by rw [HM.out]; exact k3)])
        clear k1 k2 k3 HQ1
        go_wp2_with (first | (refine wpList_load_row rfl 34 _ rfl w.heap.size rfl 34 #[.int .u8 (mk : Nat), .int .i64 frm, .int .i64 dst, .int .i64 term, .int .i64 index, .int .i64 logTerm, .slice E n c, .int .i64 commit, .bool mok] (0, 0) _ H3.out.2.2.1 Try.underlying34 rfl (by kernel_rfl) ?_) | fail)
        refine (HC4.out S2 wc H3.out.1 HRU.out HFU.out HHU.out).mono ?_
        intro e w9 ho
        have HO : Hid (OutR w g A (S2.told M).1 (S2.told M).2 e w9) := Lib.hid (OutR.after H3.out.2.1 (fun a ha => .inl ⟨a, ha, rfl⟩) ho)
        clear ho
        have HE : Hid (∃ D d, e = .returned (.slice D (S2.told M).2.length d)) := by
          obtain ⟨_, _, _, _, _, D, d, _, _, _, _, _, _, he, _⟩ := HO.out
          exact Lib.hid ⟨D, d, he⟩
        obtain ⟨D, d, he⟩ := HE.out
        subst he
        generalize hln : (S2.told M).2.length = ln at *
        clear HE hln
        go_wp2_with fail
        go_ret
        have h := HQ2.out
        rw [← h] at HO
        exact HO.out
end Go.Proofs.Ytjodglepaeomiaa
