/- Contract of the document's ask. -/
import Derived.Test.YtjodglepaeomiaaRtk
namespace Go.Proofs.Ytjodglepaeomiaa
open Go.RowKit

set_option maxRecDepth 100000 in
set_option maxHeartbeats 16000000 in
theorem ask_r (S : Sv) (m : Mg) (g : Nat) (A E : Option Addr) (cs c : Nat) (V : List Bool) (P : List (Nat × Nat)) (w : World) (hS : RvM w g S A cs V P) (hr : Rel S V P) (hl : S.log.length ≤ 4096) :
    Calls Try.prog 75 #[.pointer (some ⟨g, 0, none⟩), .agg (mcell E c m).toArray] w (OutR w g A (S.asked m).1 (S.asked m).2) := by
  have HR := Lib.hid hr
  have HQ := Lib.hid (show S.asked m = if S.grants m then ({ S with vote := m.frm }, [S.ans m 2 0 true]) else (S, [S.ans m 2 0 false]) from rfl)
  have HAN := Lib.hid (fun (S' : Sv) W (h : RvM W g S' A cs V P) ok => back_any S' m g A E cs c 2 0 ok V P W h)
  have HG := Lib.hid (show S.grants m = (decide (m.term = S.term) && (decide (S.vote = -1) || decide (S.vote = m.frm)) && (decide (termAt S.log S.log.length < m.logTerm) || (decide (m.logTerm = termAt S.log S.log.length) && decide ((S.log.length : Int) ≤ m.index)))) from rfl)
  obtain ⟨gb, hgb⟩ : ∃ b, b = S.grants m := ⟨_, rfl⟩
  rw [← hgb] at HQ HG
  clear hgb
  obtain ⟨S', ms, hq⟩ : ∃ (S' : Sv) (ms : List Mg), S.asked m = (S', ms) := ⟨_, _, rfl⟩
  rw [hq] at HQ ⊢
  clear hq
  dsimp only
  obtain ⟨mk, frm, to, term, index, logTerm, ents, commit, mok⟩ := m
  dsimp only [mcell] at HQ HG HAN ⊢
  generalize ents.length = n at *
  have HBX : Hid (Below w.heap.size w (w.alloc (.cells #[.int .u8 (mk : Nat), .int .i64 frm, .int .i64 to, .int .i64 term, .int .i64 index, .int .i64 logTerm, .slice E n c, .int .i64 commit, .bool mok] 34)) ∧ Blk (w.alloc (.cells #[.int .u8 (mk : Nat), .int .i64 frm, .int .i64 to, .int .i64 term, .int .i64 index, .int .i64 logTerm, .slice E n c, .int .i64 commit, .bool mok] 34)) w.heap.size 34 #[.int .u8 (mk : Nat), .int .i64 frm, .int .i64 to, .int .i64 term, .int .i64 index, .int .i64 logTerm, .slice E n c, .int .i64 commit, .bool mok]) := ⟨(Below.refl _ w).alloc (Nat.le_refl _) _, Blk.new _ _ _⟩
  have HS := Lib.hid (hS.below HBX.out.1)
  have hbg : ¬ w.heap.size = g := by have := hS.lt; omega
  obtain ⟨l, hll⟩ : ∃ l, l = S.log.length := ⟨_, rfl⟩
  have HT := Lib.hid (fun W (hW : Below (w.alloc (.cells #[.int .u8 (mk : Nat), .int .i64 frm, .int .i64 to, .int .i64 term, .int .i64 index, .int .i64 logTerm, .slice E n c, .int .i64 commit, .bool mok] 34)).heap.size (w.alloc (.cells #[.int .u8 (mk : Nat), .int .i64 frm, .int .i64 to, .int .i64 term, .int .i64 index, .int .i64 logTerm, .slice E n c, .int .i64 commit, .bool mok] 34)) W) => termat_any (HS.out.below hW) l (by omega) (by omega))
  have c4 : (w.alloc (.cells #[.int .u8 (mk : Nat), .int .i64 frm, .int .i64 to, .int .i64 term, .int .i64 index, .int .i64 logTerm, .slice E n c, .int .i64 commit, .bool mok] 34)).cell? ⟨g, 4, none⟩ = some (.slice A l cs) := by rw [hll]; exact HS.out.c4
  rw [← hll] at HG hl
  obtain ⟨top, htop⟩ : ∃ t, t = termAt S.log l := ⟨_, rfl⟩
  rw [← htop] at HG HT
  clear hS hr hll htop
  go_enter Try.func75, Try.ntmps75
  go_wp2_with fail
  generalize w.alloc (.cells #[.int .u8 (mk : Nat), .int .i64 frm, .int .i64 to, .int .i64 term, .int .i64 index, .int .i64 logTerm, .slice E n c, .int .i64 commit, .bool mok] 34) = w0 at *
  have x1 : w0.cell? ⟨w.heap.size, 1, none⟩ = some (.int .i64 frm) := HBX.out.2.cell 1
  have x3 : w0.cell? ⟨w.heap.size, 3, none⟩ = some (.int .i64 term) := HBX.out.2.cell 3
  have x4 : w0.cell? ⟨w.heap.size, 4, none⟩ = some (.int .i64 index) := HBX.out.2.cell 4
  have x5 : w0.cell? ⟨w.heap.size, 5, none⟩ = some (.int .i64 logTerm) := HBX.out.2.cell 5
  have c2 := HS.out.c2
  have c3 := HS.out.c3
  have f3 : w0.frozen? ⟨g, 3, none⟩ = false := HS.out.top.frozen 3
  obtain ⟨bt, hbt⟩ : ∃ b, b = (term == S.term) := ⟨_, rfl⟩
  obtain ⟨v1, hv1⟩ : ∃ b, b = (S.vote != -1) := ⟨_, rfl⟩
  obtain ⟨v2, hv2⟩ : ∃ b, b = (S.vote != frm) := ⟨_, rfl⟩
  obtain ⟨n1, hn1⟩ : ∃ b, b = decide (logTerm < top) := ⟨_, rfl⟩
  obtain ⟨n2, hn2⟩ : ∃ b, b = (logTerm == top) := ⟨_, rfl⟩
  obtain ⟨n3, hn3⟩ : ∃ b, b = decide (index < (l : Int)) := ⟨_, rfl⟩
  have HGB : Hid (gb = (bt && !(v1 && v2) && !(n1 || (n2 && n3)))) := by
    rw [HG.out, hbt, hv1, hv2, hn1, hn2, hn3]
    refine Lib.hid ?_
    rw [Bool.eq_iff_iff]
    simp
    omega
  have kt := hbt.symm
  have kv1 := hv1.symm
  have kv2 := hv2.symm
  have kn1 := hn1.symm
  have kn2 := hn2.symm
  have kn3 := hn3.symm
  clear HG hbt hv1 hv2 hn1 hn2 hn3
  have HST : Hid (∀ W, Below w0.heap.size w0 W → RvM (W.setCell ⟨g, 3, none⟩ (.int .i64 frm)) g { S with vote := frm } A cs V P ∧ Blk (W.setCell ⟨g, 3, none⟩ (.int .i64 frm)) w.heap.size 34 #[.int .u8 (mk : Nat), .int .i64 frm, .int .i64 to, .int .i64 term, .int .i64 index, .int .i64 logTerm, .slice E n c, .int .i64 commit, .bool mok] ∧ Chg (SvT g A) w (W.setCell ⟨g, 3, none⟩ (.int .i64 frm))) := Lib.hid (fun W hW => by
    have hst := (HS.out.below hW).set (S' := { S with vote := frm }) 3 (.int .i64 frm) rfl HS.out.vl HS.out.pl rfl
    exact ⟨hst.1, (HBX.out.2.below hW HBX.out.2.lt).chg hst.2 (fun h => hbg h), (Chg.of_below (HBX.out.1.trans (hW.mono HBX.out.1.size))).trans (hst.2.mono (fun b hb => .inl hb))⟩)
  have HSN : Hid (∀ W, Below w0.heap.size w0 W → RvM W g S A cs V P ∧ Blk W w.heap.size 34 #[.int .u8 (mk : Nat), .int .i64 frm, .int .i64 to, .int .i64 term, .int .i64 index, .int .i64 logTerm, .slice E n c, .int .i64 commit, .bool mok] ∧ Below w.heap.size w W) := Lib.hid (fun W hW => ⟨HS.out.below hW, HBX.out.2.below hW HBX.out.2.lt, HBX.out.1.trans (hW.mono HBX.out.1.size)⟩)
  have HRV : Hid (Rel { S with vote := frm } V P) := Lib.hid ⟨HR.out.v, HR.out.p⟩
  cases bt
  · cases v1
    · cases n1
      · cases n2
        · go_quiet (fail)
          have HB1 : Hid (Below w0.heap.size w0 (w0.drewN nq)) := Lib.hid (below_drewN (Below.refl _ _) nq)
          generalize w0.drewN nq = w1 at *
          have p3 := (HSN.out w1 HB1.out).1.c3
          have q1 : w1.cell? ⟨w.heap.size, 1, none⟩ = some (.int .i64 frm) := (HSN.out w1 HB1.out).2.1.cell 1
          go_wp2_with fail
          go_quiet (fail)
          have HB2 : Hid (Below w0.heap.size w0 (w1.drewN nq)) := Lib.hid (below_drewN HB1.out nq)
          generalize w1.drewN nq = w2 at *
          have r1 : w2.cell? ⟨w.heap.size, 1, none⟩ = some (.int .i64 frm) := (HSN.out w2 HB2.out).2.1.cell 1
          have r4 : w2.cell? ⟨w.heap.size, 4, none⟩ = some (.int .i64 index) := (HSN.out w2 HB2.out).2.1.cell 4
          have r5 : w2.cell? ⟨w.heap.size, 5, none⟩ = some (.int .i64 logTerm) := (HSN.out w2 HB2.out).2.1.cell 5
          have s3 := (HSN.out w2 HB2.out).1.c3
          have t3 : w2.frozen? ⟨g, 3, none⟩ = false := (HSN.out w2 HB2.out).1.top.frozen 3
          have HTN := Lib.hid (fun N => HT.out (w2.drewN N) (below_drewN HB2.out N))
          go_wp2_with fail
          go_quiet (refine Calls.quiet_of_same (HTN.out _))
          go_wp2_with (first | (refine wpList_load_row rfl 34 _ rfl w.heap.size rfl 34 #[.int .u8 (mk : Nat), .int .i64 frm, .int .i64 to, .int .i64 term, .int .i64 index, .int .i64 logTerm, .slice E n c, .int .i64 commit, .bool mok] (0, 0) _ (HSN.out _ (below_drewN HB2.out _)).2.1 Try.underlying34 rfl (by kernel_rfl) ?_) | fail)
          refine (HAN.out S _ (HSN.out _ (below_drewN HB2.out _)).1 false).mono ?_
          rintro e w4 ⟨⟨D, d, rfl, hms⟩, hb4⟩
          have HO : Hid (OutR w g A S [S.ans ⟨mk, frm, to, term, index, logTerm, ents, commit, mok⟩ 2 0 false] (.returned (.slice D 1 d)) w4) := OutR.ans ⟨A, cs, (HSN.out _ (below_drewN HB2.out _)).1, .of_below (HSN.out _ (below_drewN HB2.out _)).2.2, fun a ha => .inl ⟨a, ha, rfl⟩⟩ HR.out hms hb4
          clear hms hb4
          go_wp2_with fail
          go_ret
          have h := HQ.out
          rw [HGB.out] at h
          simp at h
          obtain ⟨h1, h2⟩ := h
          rw [h1, h2]
          exact HO.out
        · cases n3
          · go_quiet (fail)
            have HB1 : Hid (Below w0.heap.size w0 (w0.drewN nq)) := Lib.hid (below_drewN (Below.refl _ _) nq)
            generalize w0.drewN nq = w1 at *
            have p3 := (HSN.out w1 HB1.out).1.c3
            have q1 : w1.cell? ⟨w.heap.size, 1, none⟩ = some (.int .i64 frm) := (HSN.out w1 HB1.out).2.1.cell 1
            go_wp2_with fail
            go_quiet (fail)
            have HB2 : Hid (Below w0.heap.size w0 (w1.drewN nq)) := Lib.hid (below_drewN HB1.out nq)
            generalize w1.drewN nq = w2 at *
            have r1 : w2.cell? ⟨w.heap.size, 1, none⟩ = some (.int .i64 frm) := (HSN.out w2 HB2.out).2.1.cell 1
            have r4 : w2.cell? ⟨w.heap.size, 4, none⟩ = some (.int .i64 index) := (HSN.out w2 HB2.out).2.1.cell 4
            have r5 : w2.cell? ⟨w.heap.size, 5, none⟩ = some (.int .i64 logTerm) := (HSN.out w2 HB2.out).2.1.cell 5
            have s3 := (HSN.out w2 HB2.out).1.c3
            have t3 : w2.frozen? ⟨g, 3, none⟩ = false := (HSN.out w2 HB2.out).1.top.frozen 3
            have HTN := Lib.hid (fun N => HT.out (w2.drewN N) (below_drewN HB2.out N))
            go_wp2_with fail
            go_quiet (refine Calls.quiet_of_same (HTN.out _))
            go_wp2_with (first | (refine wpList_load_row rfl 34 _ rfl w.heap.size rfl 34 #[.int .u8 (mk : Nat), .int .i64 frm, .int .i64 to, .int .i64 term, .int .i64 index, .int .i64 logTerm, .slice E n c, .int .i64 commit, .bool mok] (0, 0) _ (HSN.out _ (below_drewN HB2.out _)).2.1 Try.underlying34 rfl (by kernel_rfl) ?_) | fail)
            refine (HAN.out S _ (HSN.out _ (below_drewN HB2.out _)).1 false).mono ?_
            rintro e w4 ⟨⟨D, d, rfl, hms⟩, hb4⟩
            have HO : Hid (OutR w g A S [S.ans ⟨mk, frm, to, term, index, logTerm, ents, commit, mok⟩ 2 0 false] (.returned (.slice D 1 d)) w4) := OutR.ans ⟨A, cs, (HSN.out _ (below_drewN HB2.out _)).1, .of_below (HSN.out _ (below_drewN HB2.out _)).2.2, fun a ha => .inl ⟨a, ha, rfl⟩⟩ HR.out hms hb4
            clear hms hb4
            go_wp2_with fail
            go_ret
            have h := HQ.out
            rw [HGB.out] at h
            simp at h
            obtain ⟨h1, h2⟩ := h
            rw [h1, h2]
            exact HO.out
          · go_quiet (fail)
            have HB1 : Hid (Below w0.heap.size w0 (w0.drewN nq)) := Lib.hid (below_drewN (Below.refl _ _) nq)
            generalize w0.drewN nq = w1 at *
            have p3 := (HSN.out w1 HB1.out).1.c3
            have q1 : w1.cell? ⟨w.heap.size, 1, none⟩ = some (.int .i64 frm) := (HSN.out w1 HB1.out).2.1.cell 1
            go_wp2_with fail
            go_quiet (fail)
            have HB2 : Hid (Below w0.heap.size w0 (w1.drewN nq)) := Lib.hid (below_drewN HB1.out nq)
            generalize w1.drewN nq = w2 at *
            have r1 : w2.cell? ⟨w.heap.size, 1, none⟩ = some (.int .i64 frm) := (HSN.out w2 HB2.out).2.1.cell 1
            have r4 : w2.cell? ⟨w.heap.size, 4, none⟩ = some (.int .i64 index) := (HSN.out w2 HB2.out).2.1.cell 4
            have r5 : w2.cell? ⟨w.heap.size, 5, none⟩ = some (.int .i64 logTerm) := (HSN.out w2 HB2.out).2.1.cell 5
            have s3 := (HSN.out w2 HB2.out).1.c3
            have t3 : w2.frozen? ⟨g, 3, none⟩ = false := (HSN.out w2 HB2.out).1.top.frozen 3
            have HTN := Lib.hid (fun N => HT.out (w2.drewN N) (below_drewN HB2.out N))
            go_wp2_with fail
            go_quiet (refine Calls.quiet_of_same (HTN.out _))
            go_wp2_with (first | (refine wpList_load_row rfl 34 _ rfl w.heap.size rfl 34 #[.int .u8 (mk : Nat), .int .i64 frm, .int .i64 to, .int .i64 term, .int .i64 index, .int .i64 logTerm, .slice E n c, .int .i64 commit, .bool mok] (0, 0) _ (HSN.out _ (below_drewN HB2.out _)).2.1 Try.underlying34 rfl (by kernel_rfl) ?_) | fail)
            refine (HAN.out S _ (HSN.out _ (below_drewN HB2.out _)).1 false).mono ?_
            rintro e w4 ⟨⟨D, d, rfl, hms⟩, hb4⟩
            have HO : Hid (OutR w g A S [S.ans ⟨mk, frm, to, term, index, logTerm, ents, commit, mok⟩ 2 0 false] (.returned (.slice D 1 d)) w4) := OutR.ans ⟨A, cs, (HSN.out _ (below_drewN HB2.out _)).1, .of_below (HSN.out _ (below_drewN HB2.out _)).2.2, fun a ha => .inl ⟨a, ha, rfl⟩⟩ HR.out hms hb4
            clear hms hb4
            go_wp2_with fail
            go_ret
            have h := HQ.out
            rw [HGB.out] at h
            simp at h
            obtain ⟨h1, h2⟩ := h
            rw [h1, h2]
            exact HO.out
      · go_quiet (fail)
        have HB1 : Hid (Below w0.heap.size w0 (w0.drewN nq)) := Lib.hid (below_drewN (Below.refl _ _) nq)
        generalize w0.drewN nq = w1 at *
        have p3 := (HSN.out w1 HB1.out).1.c3
        have q1 : w1.cell? ⟨w.heap.size, 1, none⟩ = some (.int .i64 frm) := (HSN.out w1 HB1.out).2.1.cell 1
        go_wp2_with fail
        go_quiet (fail)
        have HB2 : Hid (Below w0.heap.size w0 (w1.drewN nq)) := Lib.hid (below_drewN HB1.out nq)
        generalize w1.drewN nq = w2 at *
        have r1 : w2.cell? ⟨w.heap.size, 1, none⟩ = some (.int .i64 frm) := (HSN.out w2 HB2.out).2.1.cell 1
        have r4 : w2.cell? ⟨w.heap.size, 4, none⟩ = some (.int .i64 index) := (HSN.out w2 HB2.out).2.1.cell 4
        have r5 : w2.cell? ⟨w.heap.size, 5, none⟩ = some (.int .i64 logTerm) := (HSN.out w2 HB2.out).2.1.cell 5
        have s3 := (HSN.out w2 HB2.out).1.c3
        have t3 : w2.frozen? ⟨g, 3, none⟩ = false := (HSN.out w2 HB2.out).1.top.frozen 3
        have HTN := Lib.hid (fun N => HT.out (w2.drewN N) (below_drewN HB2.out N))
        go_wp2_with fail
        go_quiet (refine Calls.quiet_of_same (HTN.out _))
        go_wp2_with (first | (refine wpList_load_row rfl 34 _ rfl w.heap.size rfl 34 #[.int .u8 (mk : Nat), .int .i64 frm, .int .i64 to, .int .i64 term, .int .i64 index, .int .i64 logTerm, .slice E n c, .int .i64 commit, .bool mok] (0, 0) _ (HSN.out _ (below_drewN HB2.out _)).2.1 Try.underlying34 rfl (by kernel_rfl) ?_) | fail)
        refine (HAN.out S _ (HSN.out _ (below_drewN HB2.out _)).1 false).mono ?_
        rintro e w4 ⟨⟨D, d, rfl, hms⟩, hb4⟩
        have HO : Hid (OutR w g A S [S.ans ⟨mk, frm, to, term, index, logTerm, ents, commit, mok⟩ 2 0 false] (.returned (.slice D 1 d)) w4) := OutR.ans ⟨A, cs, (HSN.out _ (below_drewN HB2.out _)).1, .of_below (HSN.out _ (below_drewN HB2.out _)).2.2, fun a ha => .inl ⟨a, ha, rfl⟩⟩ HR.out hms hb4
        clear hms hb4
        go_wp2_with fail
        go_ret
        have h := HQ.out
        rw [HGB.out] at h
        simp at h
        obtain ⟨h1, h2⟩ := h
        rw [h1, h2]
        exact HO.out
    · cases v2
      · cases n1
        · cases n2
          · go_quiet (fail)
            have HB1 : Hid (Below w0.heap.size w0 (w0.drewN nq)) := Lib.hid (below_drewN (Below.refl _ _) nq)
            generalize w0.drewN nq = w1 at *
            have p3 := (HSN.out w1 HB1.out).1.c3
            have q1 : w1.cell? ⟨w.heap.size, 1, none⟩ = some (.int .i64 frm) := (HSN.out w1 HB1.out).2.1.cell 1
            go_wp2_with fail
            go_quiet (fail)
            have HB2 : Hid (Below w0.heap.size w0 (w1.drewN nq)) := Lib.hid (below_drewN HB1.out nq)
            generalize w1.drewN nq = w2 at *
            have r1 : w2.cell? ⟨w.heap.size, 1, none⟩ = some (.int .i64 frm) := (HSN.out w2 HB2.out).2.1.cell 1
            have r4 : w2.cell? ⟨w.heap.size, 4, none⟩ = some (.int .i64 index) := (HSN.out w2 HB2.out).2.1.cell 4
            have r5 : w2.cell? ⟨w.heap.size, 5, none⟩ = some (.int .i64 logTerm) := (HSN.out w2 HB2.out).2.1.cell 5
            have s3 := (HSN.out w2 HB2.out).1.c3
            have t3 : w2.frozen? ⟨g, 3, none⟩ = false := (HSN.out w2 HB2.out).1.top.frozen 3
            have HTN := Lib.hid (fun N => HT.out (w2.drewN N) (below_drewN HB2.out N))
            go_wp2_with fail
            go_quiet (refine Calls.quiet_of_same (HTN.out _))
            go_wp2_with (first | (refine wpList_load_row rfl 34 _ rfl w.heap.size rfl 34 #[.int .u8 (mk : Nat), .int .i64 frm, .int .i64 to, .int .i64 term, .int .i64 index, .int .i64 logTerm, .slice E n c, .int .i64 commit, .bool mok] (0, 0) _ (HSN.out _ (below_drewN HB2.out _)).2.1 Try.underlying34 rfl (by kernel_rfl) ?_) | fail)
            refine (HAN.out S _ (HSN.out _ (below_drewN HB2.out _)).1 false).mono ?_
            rintro e w4 ⟨⟨D, d, rfl, hms⟩, hb4⟩
            have HO : Hid (OutR w g A S [S.ans ⟨mk, frm, to, term, index, logTerm, ents, commit, mok⟩ 2 0 false] (.returned (.slice D 1 d)) w4) := OutR.ans ⟨A, cs, (HSN.out _ (below_drewN HB2.out _)).1, .of_below (HSN.out _ (below_drewN HB2.out _)).2.2, fun a ha => .inl ⟨a, ha, rfl⟩⟩ HR.out hms hb4
            clear hms hb4
            go_wp2_with fail
            go_ret
            have h := HQ.out
            rw [HGB.out] at h
            simp at h
            obtain ⟨h1, h2⟩ := h
            rw [h1, h2]
            exact HO.out
          · cases n3
            · go_quiet (fail)
              have HB1 : Hid (Below w0.heap.size w0 (w0.drewN nq)) := Lib.hid (below_drewN (Below.refl _ _) nq)
              generalize w0.drewN nq = w1 at *
              have p3 := (HSN.out w1 HB1.out).1.c3
              have q1 : w1.cell? ⟨w.heap.size, 1, none⟩ = some (.int .i64 frm) := (HSN.out w1 HB1.out).2.1.cell 1
              go_wp2_with fail
              go_quiet (fail)
              have HB2 : Hid (Below w0.heap.size w0 (w1.drewN nq)) := Lib.hid (below_drewN HB1.out nq)
              generalize w1.drewN nq = w2 at *
              have r1 : w2.cell? ⟨w.heap.size, 1, none⟩ = some (.int .i64 frm) := (HSN.out w2 HB2.out).2.1.cell 1
              have r4 : w2.cell? ⟨w.heap.size, 4, none⟩ = some (.int .i64 index) := (HSN.out w2 HB2.out).2.1.cell 4
              have r5 : w2.cell? ⟨w.heap.size, 5, none⟩ = some (.int .i64 logTerm) := (HSN.out w2 HB2.out).2.1.cell 5
              have s3 := (HSN.out w2 HB2.out).1.c3
              have t3 : w2.frozen? ⟨g, 3, none⟩ = false := (HSN.out w2 HB2.out).1.top.frozen 3
              have HTN := Lib.hid (fun N => HT.out (w2.drewN N) (below_drewN HB2.out N))
              go_wp2_with fail
              go_quiet (refine Calls.quiet_of_same (HTN.out _))
              go_wp2_with (first | (refine wpList_load_row rfl 34 _ rfl w.heap.size rfl 34 #[.int .u8 (mk : Nat), .int .i64 frm, .int .i64 to, .int .i64 term, .int .i64 index, .int .i64 logTerm, .slice E n c, .int .i64 commit, .bool mok] (0, 0) _ (HSN.out _ (below_drewN HB2.out _)).2.1 Try.underlying34 rfl (by kernel_rfl) ?_) | fail)
              refine (HAN.out S _ (HSN.out _ (below_drewN HB2.out _)).1 false).mono ?_
              rintro e w4 ⟨⟨D, d, rfl, hms⟩, hb4⟩
              have HO : Hid (OutR w g A S [S.ans ⟨mk, frm, to, term, index, logTerm, ents, commit, mok⟩ 2 0 false] (.returned (.slice D 1 d)) w4) := OutR.ans ⟨A, cs, (HSN.out _ (below_drewN HB2.out _)).1, .of_below (HSN.out _ (below_drewN HB2.out _)).2.2, fun a ha => .inl ⟨a, ha, rfl⟩⟩ HR.out hms hb4
              clear hms hb4
              go_wp2_with fail
              go_ret
              have h := HQ.out
              rw [HGB.out] at h
              simp at h
              obtain ⟨h1, h2⟩ := h
              rw [h1, h2]
              exact HO.out
            · go_quiet (fail)
              have HB1 : Hid (Below w0.heap.size w0 (w0.drewN nq)) := Lib.hid (below_drewN (Below.refl _ _) nq)
              generalize w0.drewN nq = w1 at *
              have p3 := (HSN.out w1 HB1.out).1.c3
              have q1 : w1.cell? ⟨w.heap.size, 1, none⟩ = some (.int .i64 frm) := (HSN.out w1 HB1.out).2.1.cell 1
              go_wp2_with fail
              go_quiet (fail)
              have HB2 : Hid (Below w0.heap.size w0 (w1.drewN nq)) := Lib.hid (below_drewN HB1.out nq)
              generalize w1.drewN nq = w2 at *
              have r1 : w2.cell? ⟨w.heap.size, 1, none⟩ = some (.int .i64 frm) := (HSN.out w2 HB2.out).2.1.cell 1
              have r4 : w2.cell? ⟨w.heap.size, 4, none⟩ = some (.int .i64 index) := (HSN.out w2 HB2.out).2.1.cell 4
              have r5 : w2.cell? ⟨w.heap.size, 5, none⟩ = some (.int .i64 logTerm) := (HSN.out w2 HB2.out).2.1.cell 5
              have s3 := (HSN.out w2 HB2.out).1.c3
              have t3 : w2.frozen? ⟨g, 3, none⟩ = false := (HSN.out w2 HB2.out).1.top.frozen 3
              have HTN := Lib.hid (fun N => HT.out (w2.drewN N) (below_drewN HB2.out N))
              go_wp2_with fail
              go_quiet (refine Calls.quiet_of_same (HTN.out _))
              go_wp2_with (first | (refine wpList_load_row rfl 34 _ rfl w.heap.size rfl 34 #[.int .u8 (mk : Nat), .int .i64 frm, .int .i64 to, .int .i64 term, .int .i64 index, .int .i64 logTerm, .slice E n c, .int .i64 commit, .bool mok] (0, 0) _ (HSN.out _ (below_drewN HB2.out _)).2.1 Try.underlying34 rfl (by kernel_rfl) ?_) | fail)
              refine (HAN.out S _ (HSN.out _ (below_drewN HB2.out _)).1 false).mono ?_
              rintro e w4 ⟨⟨D, d, rfl, hms⟩, hb4⟩
              have HO : Hid (OutR w g A S [S.ans ⟨mk, frm, to, term, index, logTerm, ents, commit, mok⟩ 2 0 false] (.returned (.slice D 1 d)) w4) := OutR.ans ⟨A, cs, (HSN.out _ (below_drewN HB2.out _)).1, .of_below (HSN.out _ (below_drewN HB2.out _)).2.2, fun a ha => .inl ⟨a, ha, rfl⟩⟩ HR.out hms hb4
              clear hms hb4
              go_wp2_with fail
              go_ret
              have h := HQ.out
              rw [HGB.out] at h
              simp at h
              obtain ⟨h1, h2⟩ := h
              rw [h1, h2]
              exact HO.out
        · go_quiet (fail)
          have HB1 : Hid (Below w0.heap.size w0 (w0.drewN nq)) := Lib.hid (below_drewN (Below.refl _ _) nq)
          generalize w0.drewN nq = w1 at *
          have p3 := (HSN.out w1 HB1.out).1.c3
          have q1 : w1.cell? ⟨w.heap.size, 1, none⟩ = some (.int .i64 frm) := (HSN.out w1 HB1.out).2.1.cell 1
          go_wp2_with fail
          go_quiet (fail)
          have HB2 : Hid (Below w0.heap.size w0 (w1.drewN nq)) := Lib.hid (below_drewN HB1.out nq)
          generalize w1.drewN nq = w2 at *
          have r1 : w2.cell? ⟨w.heap.size, 1, none⟩ = some (.int .i64 frm) := (HSN.out w2 HB2.out).2.1.cell 1
          have r4 : w2.cell? ⟨w.heap.size, 4, none⟩ = some (.int .i64 index) := (HSN.out w2 HB2.out).2.1.cell 4
          have r5 : w2.cell? ⟨w.heap.size, 5, none⟩ = some (.int .i64 logTerm) := (HSN.out w2 HB2.out).2.1.cell 5
          have s3 := (HSN.out w2 HB2.out).1.c3
          have t3 : w2.frozen? ⟨g, 3, none⟩ = false := (HSN.out w2 HB2.out).1.top.frozen 3
          have HTN := Lib.hid (fun N => HT.out (w2.drewN N) (below_drewN HB2.out N))
          go_wp2_with fail
          go_quiet (refine Calls.quiet_of_same (HTN.out _))
          go_wp2_with (first | (refine wpList_load_row rfl 34 _ rfl w.heap.size rfl 34 #[.int .u8 (mk : Nat), .int .i64 frm, .int .i64 to, .int .i64 term, .int .i64 index, .int .i64 logTerm, .slice E n c, .int .i64 commit, .bool mok] (0, 0) _ (HSN.out _ (below_drewN HB2.out _)).2.1 Try.underlying34 rfl (by kernel_rfl) ?_) | fail)
          refine (HAN.out S _ (HSN.out _ (below_drewN HB2.out _)).1 false).mono ?_
          rintro e w4 ⟨⟨D, d, rfl, hms⟩, hb4⟩
          have HO : Hid (OutR w g A S [S.ans ⟨mk, frm, to, term, index, logTerm, ents, commit, mok⟩ 2 0 false] (.returned (.slice D 1 d)) w4) := OutR.ans ⟨A, cs, (HSN.out _ (below_drewN HB2.out _)).1, .of_below (HSN.out _ (below_drewN HB2.out _)).2.2, fun a ha => .inl ⟨a, ha, rfl⟩⟩ HR.out hms hb4
          clear hms hb4
          go_wp2_with fail
          go_ret
          have h := HQ.out
          rw [HGB.out] at h
          simp at h
          obtain ⟨h1, h2⟩ := h
          rw [h1, h2]
          exact HO.out
      · cases n1
        · cases n2
          · go_quiet (fail)
            have HB1 : Hid (Below w0.heap.size w0 (w0.drewN nq)) := Lib.hid (below_drewN (Below.refl _ _) nq)
            generalize w0.drewN nq = w1 at *
            have p3 := (HSN.out w1 HB1.out).1.c3
            have q1 : w1.cell? ⟨w.heap.size, 1, none⟩ = some (.int .i64 frm) := (HSN.out w1 HB1.out).2.1.cell 1
            go_wp2_with fail
            go_quiet (fail)
            have HB2 : Hid (Below w0.heap.size w0 (w1.drewN nq)) := Lib.hid (below_drewN HB1.out nq)
            generalize w1.drewN nq = w2 at *
            have r1 : w2.cell? ⟨w.heap.size, 1, none⟩ = some (.int .i64 frm) := (HSN.out w2 HB2.out).2.1.cell 1
            have r4 : w2.cell? ⟨w.heap.size, 4, none⟩ = some (.int .i64 index) := (HSN.out w2 HB2.out).2.1.cell 4
            have r5 : w2.cell? ⟨w.heap.size, 5, none⟩ = some (.int .i64 logTerm) := (HSN.out w2 HB2.out).2.1.cell 5
            have s3 := (HSN.out w2 HB2.out).1.c3
            have t3 : w2.frozen? ⟨g, 3, none⟩ = false := (HSN.out w2 HB2.out).1.top.frozen 3
            have HTN := Lib.hid (fun N => HT.out (w2.drewN N) (below_drewN HB2.out N))
            go_wp2_with fail
            go_quiet (refine Calls.quiet_of_same (HTN.out _))
            go_wp2_with (first | (refine wpList_load_row rfl 34 _ rfl w.heap.size rfl 34 #[.int .u8 (mk : Nat), .int .i64 frm, .int .i64 to, .int .i64 term, .int .i64 index, .int .i64 logTerm, .slice E n c, .int .i64 commit, .bool mok] (0, 0) _ (HSN.out _ (below_drewN HB2.out _)).2.1 Try.underlying34 rfl (by kernel_rfl) ?_) | fail)
            refine (HAN.out S _ (HSN.out _ (below_drewN HB2.out _)).1 false).mono ?_
            rintro e w4 ⟨⟨D, d, rfl, hms⟩, hb4⟩
            have HO : Hid (OutR w g A S [S.ans ⟨mk, frm, to, term, index, logTerm, ents, commit, mok⟩ 2 0 false] (.returned (.slice D 1 d)) w4) := OutR.ans ⟨A, cs, (HSN.out _ (below_drewN HB2.out _)).1, .of_below (HSN.out _ (below_drewN HB2.out _)).2.2, fun a ha => .inl ⟨a, ha, rfl⟩⟩ HR.out hms hb4
            clear hms hb4
            go_wp2_with fail
            go_ret
            have h := HQ.out
            rw [HGB.out] at h
            simp at h
            obtain ⟨h1, h2⟩ := h
            rw [h1, h2]
            exact HO.out
          · cases n3
            · go_quiet (fail)
              have HB1 : Hid (Below w0.heap.size w0 (w0.drewN nq)) := Lib.hid (below_drewN (Below.refl _ _) nq)
              generalize w0.drewN nq = w1 at *
              have p3 := (HSN.out w1 HB1.out).1.c3
              have q1 : w1.cell? ⟨w.heap.size, 1, none⟩ = some (.int .i64 frm) := (HSN.out w1 HB1.out).2.1.cell 1
              go_wp2_with fail
              go_quiet (fail)
              have HB2 : Hid (Below w0.heap.size w0 (w1.drewN nq)) := Lib.hid (below_drewN HB1.out nq)
              generalize w1.drewN nq = w2 at *
              have r1 : w2.cell? ⟨w.heap.size, 1, none⟩ = some (.int .i64 frm) := (HSN.out w2 HB2.out).2.1.cell 1
              have r4 : w2.cell? ⟨w.heap.size, 4, none⟩ = some (.int .i64 index) := (HSN.out w2 HB2.out).2.1.cell 4
              have r5 : w2.cell? ⟨w.heap.size, 5, none⟩ = some (.int .i64 logTerm) := (HSN.out w2 HB2.out).2.1.cell 5
              have s3 := (HSN.out w2 HB2.out).1.c3
              have t3 : w2.frozen? ⟨g, 3, none⟩ = false := (HSN.out w2 HB2.out).1.top.frozen 3
              have HTN := Lib.hid (fun N => HT.out (w2.drewN N) (below_drewN HB2.out N))
              go_wp2_with fail
              go_quiet (refine Calls.quiet_of_same (HTN.out _))
              go_wp2_with (first | (refine wpList_load_row rfl 34 _ rfl w.heap.size rfl 34 #[.int .u8 (mk : Nat), .int .i64 frm, .int .i64 to, .int .i64 term, .int .i64 index, .int .i64 logTerm, .slice E n c, .int .i64 commit, .bool mok] (0, 0) _ (HSN.out _ (below_drewN HB2.out _)).2.1 Try.underlying34 rfl (by kernel_rfl) ?_) | fail)
              refine (HAN.out S _ (HSN.out _ (below_drewN HB2.out _)).1 false).mono ?_
              rintro e w4 ⟨⟨D, d, rfl, hms⟩, hb4⟩
              have HO : Hid (OutR w g A S [S.ans ⟨mk, frm, to, term, index, logTerm, ents, commit, mok⟩ 2 0 false] (.returned (.slice D 1 d)) w4) := OutR.ans ⟨A, cs, (HSN.out _ (below_drewN HB2.out _)).1, .of_below (HSN.out _ (below_drewN HB2.out _)).2.2, fun a ha => .inl ⟨a, ha, rfl⟩⟩ HR.out hms hb4
              clear hms hb4
              go_wp2_with fail
              go_ret
              have h := HQ.out
              rw [HGB.out] at h
              simp at h
              obtain ⟨h1, h2⟩ := h
              rw [h1, h2]
              exact HO.out
            · go_quiet (fail)
              have HB1 : Hid (Below w0.heap.size w0 (w0.drewN nq)) := Lib.hid (below_drewN (Below.refl _ _) nq)
              generalize w0.drewN nq = w1 at *
              have p3 := (HSN.out w1 HB1.out).1.c3
              have q1 : w1.cell? ⟨w.heap.size, 1, none⟩ = some (.int .i64 frm) := (HSN.out w1 HB1.out).2.1.cell 1
              go_wp2_with fail
              go_quiet (fail)
              have HB2 : Hid (Below w0.heap.size w0 (w1.drewN nq)) := Lib.hid (below_drewN HB1.out nq)
              generalize w1.drewN nq = w2 at *
              have r1 : w2.cell? ⟨w.heap.size, 1, none⟩ = some (.int .i64 frm) := (HSN.out w2 HB2.out).2.1.cell 1
              have r4 : w2.cell? ⟨w.heap.size, 4, none⟩ = some (.int .i64 index) := (HSN.out w2 HB2.out).2.1.cell 4
              have r5 : w2.cell? ⟨w.heap.size, 5, none⟩ = some (.int .i64 logTerm) := (HSN.out w2 HB2.out).2.1.cell 5
              have s3 := (HSN.out w2 HB2.out).1.c3
              have t3 : w2.frozen? ⟨g, 3, none⟩ = false := (HSN.out w2 HB2.out).1.top.frozen 3
              have HTN := Lib.hid (fun N => HT.out (w2.drewN N) (below_drewN HB2.out N))
              go_wp2_with fail
              go_quiet (refine Calls.quiet_of_same (HTN.out _))
              go_wp2_with (first | (refine wpList_load_row rfl 34 _ rfl w.heap.size rfl 34 #[.int .u8 (mk : Nat), .int .i64 frm, .int .i64 to, .int .i64 term, .int .i64 index, .int .i64 logTerm, .slice E n c, .int .i64 commit, .bool mok] (0, 0) _ (HSN.out _ (below_drewN HB2.out _)).2.1 Try.underlying34 rfl (by kernel_rfl) ?_) | fail)
              refine (HAN.out S _ (HSN.out _ (below_drewN HB2.out _)).1 false).mono ?_
              rintro e w4 ⟨⟨D, d, rfl, hms⟩, hb4⟩
              have HO : Hid (OutR w g A S [S.ans ⟨mk, frm, to, term, index, logTerm, ents, commit, mok⟩ 2 0 false] (.returned (.slice D 1 d)) w4) := OutR.ans ⟨A, cs, (HSN.out _ (below_drewN HB2.out _)).1, .of_below (HSN.out _ (below_drewN HB2.out _)).2.2, fun a ha => .inl ⟨a, ha, rfl⟩⟩ HR.out hms hb4
              clear hms hb4
              go_wp2_with fail
              go_ret
              have h := HQ.out
              rw [HGB.out] at h
              simp at h
              obtain ⟨h1, h2⟩ := h
              rw [h1, h2]
              exact HO.out
        · go_quiet (fail)
          have HB1 : Hid (Below w0.heap.size w0 (w0.drewN nq)) := Lib.hid (below_drewN (Below.refl _ _) nq)
          generalize w0.drewN nq = w1 at *
          have p3 := (HSN.out w1 HB1.out).1.c3
          have q1 : w1.cell? ⟨w.heap.size, 1, none⟩ = some (.int .i64 frm) := (HSN.out w1 HB1.out).2.1.cell 1
          go_wp2_with fail
          go_quiet (fail)
          have HB2 : Hid (Below w0.heap.size w0 (w1.drewN nq)) := Lib.hid (below_drewN HB1.out nq)
          generalize w1.drewN nq = w2 at *
          have r1 : w2.cell? ⟨w.heap.size, 1, none⟩ = some (.int .i64 frm) := (HSN.out w2 HB2.out).2.1.cell 1
          have r4 : w2.cell? ⟨w.heap.size, 4, none⟩ = some (.int .i64 index) := (HSN.out w2 HB2.out).2.1.cell 4
          have r5 : w2.cell? ⟨w.heap.size, 5, none⟩ = some (.int .i64 logTerm) := (HSN.out w2 HB2.out).2.1.cell 5
          have s3 := (HSN.out w2 HB2.out).1.c3
          have t3 : w2.frozen? ⟨g, 3, none⟩ = false := (HSN.out w2 HB2.out).1.top.frozen 3
          have HTN := Lib.hid (fun N => HT.out (w2.drewN N) (below_drewN HB2.out N))
          go_wp2_with fail
          go_quiet (refine Calls.quiet_of_same (HTN.out _))
          go_wp2_with (first | (refine wpList_load_row rfl 34 _ rfl w.heap.size rfl 34 #[.int .u8 (mk : Nat), .int .i64 frm, .int .i64 to, .int .i64 term, .int .i64 index, .int .i64 logTerm, .slice E n c, .int .i64 commit, .bool mok] (0, 0) _ (HSN.out _ (below_drewN HB2.out _)).2.1 Try.underlying34 rfl (by kernel_rfl) ?_) | fail)
          refine (HAN.out S _ (HSN.out _ (below_drewN HB2.out _)).1 false).mono ?_
          rintro e w4 ⟨⟨D, d, rfl, hms⟩, hb4⟩
          have HO : Hid (OutR w g A S [S.ans ⟨mk, frm, to, term, index, logTerm, ents, commit, mok⟩ 2 0 false] (.returned (.slice D 1 d)) w4) := OutR.ans ⟨A, cs, (HSN.out _ (below_drewN HB2.out _)).1, .of_below (HSN.out _ (below_drewN HB2.out _)).2.2, fun a ha => .inl ⟨a, ha, rfl⟩⟩ HR.out hms hb4
          clear hms hb4
          go_wp2_with fail
          go_ret
          have h := HQ.out
          rw [HGB.out] at h
          simp at h
          obtain ⟨h1, h2⟩ := h
          rw [h1, h2]
          exact HO.out
  · cases v1
    · cases n1
      · cases n2
        · go_quiet (fail)
          have HB1 : Hid (Below w0.heap.size w0 (w0.drewN nq)) := Lib.hid (below_drewN (Below.refl _ _) nq)
          generalize w0.drewN nq = w1 at *
          have p3 := (HSN.out w1 HB1.out).1.c3
          have q1 : w1.cell? ⟨w.heap.size, 1, none⟩ = some (.int .i64 frm) := (HSN.out w1 HB1.out).2.1.cell 1
          go_wp2_with fail
          go_quiet (fail)
          have HB2 : Hid (Below w0.heap.size w0 (w1.drewN nq)) := Lib.hid (below_drewN HB1.out nq)
          generalize w1.drewN nq = w2 at *
          have r1 : w2.cell? ⟨w.heap.size, 1, none⟩ = some (.int .i64 frm) := (HSN.out w2 HB2.out).2.1.cell 1
          have r4 : w2.cell? ⟨w.heap.size, 4, none⟩ = some (.int .i64 index) := (HSN.out w2 HB2.out).2.1.cell 4
          have r5 : w2.cell? ⟨w.heap.size, 5, none⟩ = some (.int .i64 logTerm) := (HSN.out w2 HB2.out).2.1.cell 5
          have s3 := (HSN.out w2 HB2.out).1.c3
          have t3 : w2.frozen? ⟨g, 3, none⟩ = false := (HSN.out w2 HB2.out).1.top.frozen 3
          have HTN := Lib.hid (fun N => HT.out (w2.drewN N) (below_drewN HB2.out N))
          go_wp2_with fail
          go_quiet (refine Calls.quiet_of_same (HTN.out _))
          go_wp2_with (first | (refine wpList_load_row rfl 34 _ rfl w.heap.size rfl 34 #[.int .u8 (mk : Nat), .int .i64 frm, .int .i64 to, .int .i64 term, .int .i64 index, .int .i64 logTerm, .slice E n c, .int .i64 commit, .bool mok] (0, 0) _ (HST.out _ (below_drewN HB2.out _)).2.1 Try.underlying34 rfl (by kernel_rfl) ?_) | fail)
          refine (HAN.out { S with vote := frm } _ (HST.out _ (below_drewN HB2.out _)).1 true).mono ?_
          rintro e w4 ⟨⟨D, d, rfl, hms⟩, hb4⟩
          have HO : Hid (OutR w g A { S with vote := frm } [S.ans ⟨mk, frm, to, term, index, logTerm, ents, commit, mok⟩ 2 0 true] (.returned (.slice D 1 d)) w4) := OutR.ans ⟨A, cs, (HST.out _ (below_drewN HB2.out _)).1, (HST.out _ (below_drewN HB2.out _)).2.2, fun a ha => .inl ⟨a, ha, rfl⟩⟩ HRV.out hms hb4
          clear hms hb4
          go_wp2_with fail
          go_ret
          have h := HQ.out
          rw [HGB.out] at h
          simp at h
          obtain ⟨h1, h2⟩ := h
          rw [h1, h2]
          exact HO.out
        · cases n3
          · go_quiet (fail)
            have HB1 : Hid (Below w0.heap.size w0 (w0.drewN nq)) := Lib.hid (below_drewN (Below.refl _ _) nq)
            generalize w0.drewN nq = w1 at *
            have p3 := (HSN.out w1 HB1.out).1.c3
            have q1 : w1.cell? ⟨w.heap.size, 1, none⟩ = some (.int .i64 frm) := (HSN.out w1 HB1.out).2.1.cell 1
            go_wp2_with fail
            go_quiet (fail)
            have HB2 : Hid (Below w0.heap.size w0 (w1.drewN nq)) := Lib.hid (below_drewN HB1.out nq)
            generalize w1.drewN nq = w2 at *
            have r1 : w2.cell? ⟨w.heap.size, 1, none⟩ = some (.int .i64 frm) := (HSN.out w2 HB2.out).2.1.cell 1
            have r4 : w2.cell? ⟨w.heap.size, 4, none⟩ = some (.int .i64 index) := (HSN.out w2 HB2.out).2.1.cell 4
            have r5 : w2.cell? ⟨w.heap.size, 5, none⟩ = some (.int .i64 logTerm) := (HSN.out w2 HB2.out).2.1.cell 5
            have s3 := (HSN.out w2 HB2.out).1.c3
            have t3 : w2.frozen? ⟨g, 3, none⟩ = false := (HSN.out w2 HB2.out).1.top.frozen 3
            have HTN := Lib.hid (fun N => HT.out (w2.drewN N) (below_drewN HB2.out N))
            go_wp2_with fail
            go_quiet (refine Calls.quiet_of_same (HTN.out _))
            go_wp2_with (first | (refine wpList_load_row rfl 34 _ rfl w.heap.size rfl 34 #[.int .u8 (mk : Nat), .int .i64 frm, .int .i64 to, .int .i64 term, .int .i64 index, .int .i64 logTerm, .slice E n c, .int .i64 commit, .bool mok] (0, 0) _ (HST.out _ (below_drewN HB2.out _)).2.1 Try.underlying34 rfl (by kernel_rfl) ?_) | fail)
            refine (HAN.out { S with vote := frm } _ (HST.out _ (below_drewN HB2.out _)).1 true).mono ?_
            rintro e w4 ⟨⟨D, d, rfl, hms⟩, hb4⟩
            have HO : Hid (OutR w g A { S with vote := frm } [S.ans ⟨mk, frm, to, term, index, logTerm, ents, commit, mok⟩ 2 0 true] (.returned (.slice D 1 d)) w4) := OutR.ans ⟨A, cs, (HST.out _ (below_drewN HB2.out _)).1, (HST.out _ (below_drewN HB2.out _)).2.2, fun a ha => .inl ⟨a, ha, rfl⟩⟩ HRV.out hms hb4
            clear hms hb4
            go_wp2_with fail
            go_ret
            have h := HQ.out
            rw [HGB.out] at h
            simp at h
            obtain ⟨h1, h2⟩ := h
            rw [h1, h2]
            exact HO.out
          · go_quiet (fail)
            have HB1 : Hid (Below w0.heap.size w0 (w0.drewN nq)) := Lib.hid (below_drewN (Below.refl _ _) nq)
            generalize w0.drewN nq = w1 at *
            have p3 := (HSN.out w1 HB1.out).1.c3
            have q1 : w1.cell? ⟨w.heap.size, 1, none⟩ = some (.int .i64 frm) := (HSN.out w1 HB1.out).2.1.cell 1
            go_wp2_with fail
            go_quiet (fail)
            have HB2 : Hid (Below w0.heap.size w0 (w1.drewN nq)) := Lib.hid (below_drewN HB1.out nq)
            generalize w1.drewN nq = w2 at *
            have r1 : w2.cell? ⟨w.heap.size, 1, none⟩ = some (.int .i64 frm) := (HSN.out w2 HB2.out).2.1.cell 1
            have r4 : w2.cell? ⟨w.heap.size, 4, none⟩ = some (.int .i64 index) := (HSN.out w2 HB2.out).2.1.cell 4
            have r5 : w2.cell? ⟨w.heap.size, 5, none⟩ = some (.int .i64 logTerm) := (HSN.out w2 HB2.out).2.1.cell 5
            have s3 := (HSN.out w2 HB2.out).1.c3
            have t3 : w2.frozen? ⟨g, 3, none⟩ = false := (HSN.out w2 HB2.out).1.top.frozen 3
            have HTN := Lib.hid (fun N => HT.out (w2.drewN N) (below_drewN HB2.out N))
            go_wp2_with fail
            go_quiet (refine Calls.quiet_of_same (HTN.out _))
            go_wp2_with (first | (refine wpList_load_row rfl 34 _ rfl w.heap.size rfl 34 #[.int .u8 (mk : Nat), .int .i64 frm, .int .i64 to, .int .i64 term, .int .i64 index, .int .i64 logTerm, .slice E n c, .int .i64 commit, .bool mok] (0, 0) _ (HSN.out _ (below_drewN HB2.out _)).2.1 Try.underlying34 rfl (by kernel_rfl) ?_) | fail)
            refine (HAN.out S _ (HSN.out _ (below_drewN HB2.out _)).1 false).mono ?_
            rintro e w4 ⟨⟨D, d, rfl, hms⟩, hb4⟩
            have HO : Hid (OutR w g A S [S.ans ⟨mk, frm, to, term, index, logTerm, ents, commit, mok⟩ 2 0 false] (.returned (.slice D 1 d)) w4) := OutR.ans ⟨A, cs, (HSN.out _ (below_drewN HB2.out _)).1, .of_below (HSN.out _ (below_drewN HB2.out _)).2.2, fun a ha => .inl ⟨a, ha, rfl⟩⟩ HR.out hms hb4
            clear hms hb4
            go_wp2_with fail
            go_ret
            have h := HQ.out
            rw [HGB.out] at h
            simp at h
            obtain ⟨h1, h2⟩ := h
            rw [h1, h2]
            exact HO.out
      · go_quiet (fail)
        have HB1 : Hid (Below w0.heap.size w0 (w0.drewN nq)) := Lib.hid (below_drewN (Below.refl _ _) nq)
        generalize w0.drewN nq = w1 at *
        have p3 := (HSN.out w1 HB1.out).1.c3
        have q1 : w1.cell? ⟨w.heap.size, 1, none⟩ = some (.int .i64 frm) := (HSN.out w1 HB1.out).2.1.cell 1
        go_wp2_with fail
        go_quiet (fail)
        have HB2 : Hid (Below w0.heap.size w0 (w1.drewN nq)) := Lib.hid (below_drewN HB1.out nq)
        generalize w1.drewN nq = w2 at *
        have r1 : w2.cell? ⟨w.heap.size, 1, none⟩ = some (.int .i64 frm) := (HSN.out w2 HB2.out).2.1.cell 1
        have r4 : w2.cell? ⟨w.heap.size, 4, none⟩ = some (.int .i64 index) := (HSN.out w2 HB2.out).2.1.cell 4
        have r5 : w2.cell? ⟨w.heap.size, 5, none⟩ = some (.int .i64 logTerm) := (HSN.out w2 HB2.out).2.1.cell 5
        have s3 := (HSN.out w2 HB2.out).1.c3
        have t3 : w2.frozen? ⟨g, 3, none⟩ = false := (HSN.out w2 HB2.out).1.top.frozen 3
        have HTN := Lib.hid (fun N => HT.out (w2.drewN N) (below_drewN HB2.out N))
        go_wp2_with fail
        go_quiet (refine Calls.quiet_of_same (HTN.out _))
        go_wp2_with (first | (refine wpList_load_row rfl 34 _ rfl w.heap.size rfl 34 #[.int .u8 (mk : Nat), .int .i64 frm, .int .i64 to, .int .i64 term, .int .i64 index, .int .i64 logTerm, .slice E n c, .int .i64 commit, .bool mok] (0, 0) _ (HSN.out _ (below_drewN HB2.out _)).2.1 Try.underlying34 rfl (by kernel_rfl) ?_) | fail)
        refine (HAN.out S _ (HSN.out _ (below_drewN HB2.out _)).1 false).mono ?_
        rintro e w4 ⟨⟨D, d, rfl, hms⟩, hb4⟩
        have HO : Hid (OutR w g A S [S.ans ⟨mk, frm, to, term, index, logTerm, ents, commit, mok⟩ 2 0 false] (.returned (.slice D 1 d)) w4) := OutR.ans ⟨A, cs, (HSN.out _ (below_drewN HB2.out _)).1, .of_below (HSN.out _ (below_drewN HB2.out _)).2.2, fun a ha => .inl ⟨a, ha, rfl⟩⟩ HR.out hms hb4
        clear hms hb4
        go_wp2_with fail
        go_ret
        have h := HQ.out
        rw [HGB.out] at h
        simp at h
        obtain ⟨h1, h2⟩ := h
        rw [h1, h2]
        exact HO.out
    · cases v2
      · cases n1
        · cases n2
          · go_quiet (fail)
            have HB1 : Hid (Below w0.heap.size w0 (w0.drewN nq)) := Lib.hid (below_drewN (Below.refl _ _) nq)
            generalize w0.drewN nq = w1 at *
            have p3 := (HSN.out w1 HB1.out).1.c3
            have q1 : w1.cell? ⟨w.heap.size, 1, none⟩ = some (.int .i64 frm) := (HSN.out w1 HB1.out).2.1.cell 1
            go_wp2_with fail
            go_quiet (fail)
            have HB2 : Hid (Below w0.heap.size w0 (w1.drewN nq)) := Lib.hid (below_drewN HB1.out nq)
            generalize w1.drewN nq = w2 at *
            have r1 : w2.cell? ⟨w.heap.size, 1, none⟩ = some (.int .i64 frm) := (HSN.out w2 HB2.out).2.1.cell 1
            have r4 : w2.cell? ⟨w.heap.size, 4, none⟩ = some (.int .i64 index) := (HSN.out w2 HB2.out).2.1.cell 4
            have r5 : w2.cell? ⟨w.heap.size, 5, none⟩ = some (.int .i64 logTerm) := (HSN.out w2 HB2.out).2.1.cell 5
            have s3 := (HSN.out w2 HB2.out).1.c3
            have t3 : w2.frozen? ⟨g, 3, none⟩ = false := (HSN.out w2 HB2.out).1.top.frozen 3
            have HTN := Lib.hid (fun N => HT.out (w2.drewN N) (below_drewN HB2.out N))
            go_wp2_with fail
            go_quiet (refine Calls.quiet_of_same (HTN.out _))
            go_wp2_with (first | (refine wpList_load_row rfl 34 _ rfl w.heap.size rfl 34 #[.int .u8 (mk : Nat), .int .i64 frm, .int .i64 to, .int .i64 term, .int .i64 index, .int .i64 logTerm, .slice E n c, .int .i64 commit, .bool mok] (0, 0) _ (HST.out _ (below_drewN HB2.out _)).2.1 Try.underlying34 rfl (by kernel_rfl) ?_) | fail)
            refine (HAN.out { S with vote := frm } _ (HST.out _ (below_drewN HB2.out _)).1 true).mono ?_
            rintro e w4 ⟨⟨D, d, rfl, hms⟩, hb4⟩
            have HO : Hid (OutR w g A { S with vote := frm } [S.ans ⟨mk, frm, to, term, index, logTerm, ents, commit, mok⟩ 2 0 true] (.returned (.slice D 1 d)) w4) := OutR.ans ⟨A, cs, (HST.out _ (below_drewN HB2.out _)).1, (HST.out _ (below_drewN HB2.out _)).2.2, fun a ha => .inl ⟨a, ha, rfl⟩⟩ HRV.out hms hb4
            clear hms hb4
            go_wp2_with fail
            go_ret
            have h := HQ.out
            rw [HGB.out] at h
            simp at h
            obtain ⟨h1, h2⟩ := h
            rw [h1, h2]
            exact HO.out
          · cases n3
            · go_quiet (fail)
              have HB1 : Hid (Below w0.heap.size w0 (w0.drewN nq)) := Lib.hid (below_drewN (Below.refl _ _) nq)
              generalize w0.drewN nq = w1 at *
              have p3 := (HSN.out w1 HB1.out).1.c3
              have q1 : w1.cell? ⟨w.heap.size, 1, none⟩ = some (.int .i64 frm) := (HSN.out w1 HB1.out).2.1.cell 1
              go_wp2_with fail
              go_quiet (fail)
              have HB2 : Hid (Below w0.heap.size w0 (w1.drewN nq)) := Lib.hid (below_drewN HB1.out nq)
              generalize w1.drewN nq = w2 at *
              have r1 : w2.cell? ⟨w.heap.size, 1, none⟩ = some (.int .i64 frm) := (HSN.out w2 HB2.out).2.1.cell 1
              have r4 : w2.cell? ⟨w.heap.size, 4, none⟩ = some (.int .i64 index) := (HSN.out w2 HB2.out).2.1.cell 4
              have r5 : w2.cell? ⟨w.heap.size, 5, none⟩ = some (.int .i64 logTerm) := (HSN.out w2 HB2.out).2.1.cell 5
              have s3 := (HSN.out w2 HB2.out).1.c3
              have t3 : w2.frozen? ⟨g, 3, none⟩ = false := (HSN.out w2 HB2.out).1.top.frozen 3
              have HTN := Lib.hid (fun N => HT.out (w2.drewN N) (below_drewN HB2.out N))
              go_wp2_with fail
              go_quiet (refine Calls.quiet_of_same (HTN.out _))
              go_wp2_with (first | (refine wpList_load_row rfl 34 _ rfl w.heap.size rfl 34 #[.int .u8 (mk : Nat), .int .i64 frm, .int .i64 to, .int .i64 term, .int .i64 index, .int .i64 logTerm, .slice E n c, .int .i64 commit, .bool mok] (0, 0) _ (HST.out _ (below_drewN HB2.out _)).2.1 Try.underlying34 rfl (by kernel_rfl) ?_) | fail)
              refine (HAN.out { S with vote := frm } _ (HST.out _ (below_drewN HB2.out _)).1 true).mono ?_
              rintro e w4 ⟨⟨D, d, rfl, hms⟩, hb4⟩
              have HO : Hid (OutR w g A { S with vote := frm } [S.ans ⟨mk, frm, to, term, index, logTerm, ents, commit, mok⟩ 2 0 true] (.returned (.slice D 1 d)) w4) := OutR.ans ⟨A, cs, (HST.out _ (below_drewN HB2.out _)).1, (HST.out _ (below_drewN HB2.out _)).2.2, fun a ha => .inl ⟨a, ha, rfl⟩⟩ HRV.out hms hb4
              clear hms hb4
              go_wp2_with fail
              go_ret
              have h := HQ.out
              rw [HGB.out] at h
              simp at h
              obtain ⟨h1, h2⟩ := h
              rw [h1, h2]
              exact HO.out
            · go_quiet (fail)
              have HB1 : Hid (Below w0.heap.size w0 (w0.drewN nq)) := Lib.hid (below_drewN (Below.refl _ _) nq)
              generalize w0.drewN nq = w1 at *
              have p3 := (HSN.out w1 HB1.out).1.c3
              have q1 : w1.cell? ⟨w.heap.size, 1, none⟩ = some (.int .i64 frm) := (HSN.out w1 HB1.out).2.1.cell 1
              go_wp2_with fail
              go_quiet (fail)
              have HB2 : Hid (Below w0.heap.size w0 (w1.drewN nq)) := Lib.hid (below_drewN HB1.out nq)
              generalize w1.drewN nq = w2 at *
              have r1 : w2.cell? ⟨w.heap.size, 1, none⟩ = some (.int .i64 frm) := (HSN.out w2 HB2.out).2.1.cell 1
              have r4 : w2.cell? ⟨w.heap.size, 4, none⟩ = some (.int .i64 index) := (HSN.out w2 HB2.out).2.1.cell 4
              have r5 : w2.cell? ⟨w.heap.size, 5, none⟩ = some (.int .i64 logTerm) := (HSN.out w2 HB2.out).2.1.cell 5
              have s3 := (HSN.out w2 HB2.out).1.c3
              have t3 : w2.frozen? ⟨g, 3, none⟩ = false := (HSN.out w2 HB2.out).1.top.frozen 3
              have HTN := Lib.hid (fun N => HT.out (w2.drewN N) (below_drewN HB2.out N))
              go_wp2_with fail
              go_quiet (refine Calls.quiet_of_same (HTN.out _))
              go_wp2_with (first | (refine wpList_load_row rfl 34 _ rfl w.heap.size rfl 34 #[.int .u8 (mk : Nat), .int .i64 frm, .int .i64 to, .int .i64 term, .int .i64 index, .int .i64 logTerm, .slice E n c, .int .i64 commit, .bool mok] (0, 0) _ (HSN.out _ (below_drewN HB2.out _)).2.1 Try.underlying34 rfl (by kernel_rfl) ?_) | fail)
              refine (HAN.out S _ (HSN.out _ (below_drewN HB2.out _)).1 false).mono ?_
              rintro e w4 ⟨⟨D, d, rfl, hms⟩, hb4⟩
              have HO : Hid (OutR w g A S [S.ans ⟨mk, frm, to, term, index, logTerm, ents, commit, mok⟩ 2 0 false] (.returned (.slice D 1 d)) w4) := OutR.ans ⟨A, cs, (HSN.out _ (below_drewN HB2.out _)).1, .of_below (HSN.out _ (below_drewN HB2.out _)).2.2, fun a ha => .inl ⟨a, ha, rfl⟩⟩ HR.out hms hb4
              clear hms hb4
              go_wp2_with fail
              go_ret
              have h := HQ.out
              rw [HGB.out] at h
              simp at h
              obtain ⟨h1, h2⟩ := h
              rw [h1, h2]
              exact HO.out
        · go_quiet (fail)
          have HB1 : Hid (Below w0.heap.size w0 (w0.drewN nq)) := Lib.hid (below_drewN (Below.refl _ _) nq)
          generalize w0.drewN nq = w1 at *
          have p3 := (HSN.out w1 HB1.out).1.c3
          have q1 : w1.cell? ⟨w.heap.size, 1, none⟩ = some (.int .i64 frm) := (HSN.out w1 HB1.out).2.1.cell 1
          go_wp2_with fail
          go_quiet (fail)
          have HB2 : Hid (Below w0.heap.size w0 (w1.drewN nq)) := Lib.hid (below_drewN HB1.out nq)
          generalize w1.drewN nq = w2 at *
          have r1 : w2.cell? ⟨w.heap.size, 1, none⟩ = some (.int .i64 frm) := (HSN.out w2 HB2.out).2.1.cell 1
          have r4 : w2.cell? ⟨w.heap.size, 4, none⟩ = some (.int .i64 index) := (HSN.out w2 HB2.out).2.1.cell 4
          have r5 : w2.cell? ⟨w.heap.size, 5, none⟩ = some (.int .i64 logTerm) := (HSN.out w2 HB2.out).2.1.cell 5
          have s3 := (HSN.out w2 HB2.out).1.c3
          have t3 : w2.frozen? ⟨g, 3, none⟩ = false := (HSN.out w2 HB2.out).1.top.frozen 3
          have HTN := Lib.hid (fun N => HT.out (w2.drewN N) (below_drewN HB2.out N))
          go_wp2_with fail
          go_quiet (refine Calls.quiet_of_same (HTN.out _))
          go_wp2_with (first | (refine wpList_load_row rfl 34 _ rfl w.heap.size rfl 34 #[.int .u8 (mk : Nat), .int .i64 frm, .int .i64 to, .int .i64 term, .int .i64 index, .int .i64 logTerm, .slice E n c, .int .i64 commit, .bool mok] (0, 0) _ (HSN.out _ (below_drewN HB2.out _)).2.1 Try.underlying34 rfl (by kernel_rfl) ?_) | fail)
          refine (HAN.out S _ (HSN.out _ (below_drewN HB2.out _)).1 false).mono ?_
          rintro e w4 ⟨⟨D, d, rfl, hms⟩, hb4⟩
          have HO : Hid (OutR w g A S [S.ans ⟨mk, frm, to, term, index, logTerm, ents, commit, mok⟩ 2 0 false] (.returned (.slice D 1 d)) w4) := OutR.ans ⟨A, cs, (HSN.out _ (below_drewN HB2.out _)).1, .of_below (HSN.out _ (below_drewN HB2.out _)).2.2, fun a ha => .inl ⟨a, ha, rfl⟩⟩ HR.out hms hb4
          clear hms hb4
          go_wp2_with fail
          go_ret
          have h := HQ.out
          rw [HGB.out] at h
          simp at h
          obtain ⟨h1, h2⟩ := h
          rw [h1, h2]
          exact HO.out
      · cases n1
        · cases n2
          · go_quiet (fail)
            have HB1 : Hid (Below w0.heap.size w0 (w0.drewN nq)) := Lib.hid (below_drewN (Below.refl _ _) nq)
            generalize w0.drewN nq = w1 at *
            have p3 := (HSN.out w1 HB1.out).1.c3
            have q1 : w1.cell? ⟨w.heap.size, 1, none⟩ = some (.int .i64 frm) := (HSN.out w1 HB1.out).2.1.cell 1
            go_wp2_with fail
            go_quiet (fail)
            have HB2 : Hid (Below w0.heap.size w0 (w1.drewN nq)) := Lib.hid (below_drewN HB1.out nq)
            generalize w1.drewN nq = w2 at *
            have r1 : w2.cell? ⟨w.heap.size, 1, none⟩ = some (.int .i64 frm) := (HSN.out w2 HB2.out).2.1.cell 1
            have r4 : w2.cell? ⟨w.heap.size, 4, none⟩ = some (.int .i64 index) := (HSN.out w2 HB2.out).2.1.cell 4
            have r5 : w2.cell? ⟨w.heap.size, 5, none⟩ = some (.int .i64 logTerm) := (HSN.out w2 HB2.out).2.1.cell 5
            have s3 := (HSN.out w2 HB2.out).1.c3
            have t3 : w2.frozen? ⟨g, 3, none⟩ = false := (HSN.out w2 HB2.out).1.top.frozen 3
            have HTN := Lib.hid (fun N => HT.out (w2.drewN N) (below_drewN HB2.out N))
            go_wp2_with fail
            go_quiet (refine Calls.quiet_of_same (HTN.out _))
            go_wp2_with (first | (refine wpList_load_row rfl 34 _ rfl w.heap.size rfl 34 #[.int .u8 (mk : Nat), .int .i64 frm, .int .i64 to, .int .i64 term, .int .i64 index, .int .i64 logTerm, .slice E n c, .int .i64 commit, .bool mok] (0, 0) _ (HSN.out _ (below_drewN HB2.out _)).2.1 Try.underlying34 rfl (by kernel_rfl) ?_) | fail)
            refine (HAN.out S _ (HSN.out _ (below_drewN HB2.out _)).1 false).mono ?_
            rintro e w4 ⟨⟨D, d, rfl, hms⟩, hb4⟩
            have HO : Hid (OutR w g A S [S.ans ⟨mk, frm, to, term, index, logTerm, ents, commit, mok⟩ 2 0 false] (.returned (.slice D 1 d)) w4) := OutR.ans ⟨A, cs, (HSN.out _ (below_drewN HB2.out _)).1, .of_below (HSN.out _ (below_drewN HB2.out _)).2.2, fun a ha => .inl ⟨a, ha, rfl⟩⟩ HR.out hms hb4
            clear hms hb4
            go_wp2_with fail
            go_ret
            have h := HQ.out
            rw [HGB.out] at h
            simp at h
            obtain ⟨h1, h2⟩ := h
            rw [h1, h2]
            exact HO.out
          · cases n3
            · go_quiet (fail)
              have HB1 : Hid (Below w0.heap.size w0 (w0.drewN nq)) := Lib.hid (below_drewN (Below.refl _ _) nq)
              generalize w0.drewN nq = w1 at *
              have p3 := (HSN.out w1 HB1.out).1.c3
              have q1 : w1.cell? ⟨w.heap.size, 1, none⟩ = some (.int .i64 frm) := (HSN.out w1 HB1.out).2.1.cell 1
              go_wp2_with fail
              go_quiet (fail)
              have HB2 : Hid (Below w0.heap.size w0 (w1.drewN nq)) := Lib.hid (below_drewN HB1.out nq)
              generalize w1.drewN nq = w2 at *
              have r1 : w2.cell? ⟨w.heap.size, 1, none⟩ = some (.int .i64 frm) := (HSN.out w2 HB2.out).2.1.cell 1
              have r4 : w2.cell? ⟨w.heap.size, 4, none⟩ = some (.int .i64 index) := (HSN.out w2 HB2.out).2.1.cell 4
              have r5 : w2.cell? ⟨w.heap.size, 5, none⟩ = some (.int .i64 logTerm) := (HSN.out w2 HB2.out).2.1.cell 5
              have s3 := (HSN.out w2 HB2.out).1.c3
              have t3 : w2.frozen? ⟨g, 3, none⟩ = false := (HSN.out w2 HB2.out).1.top.frozen 3
              have HTN := Lib.hid (fun N => HT.out (w2.drewN N) (below_drewN HB2.out N))
              go_wp2_with fail
              go_quiet (refine Calls.quiet_of_same (HTN.out _))
              go_wp2_with (first | (refine wpList_load_row rfl 34 _ rfl w.heap.size rfl 34 #[.int .u8 (mk : Nat), .int .i64 frm, .int .i64 to, .int .i64 term, .int .i64 index, .int .i64 logTerm, .slice E n c, .int .i64 commit, .bool mok] (0, 0) _ (HSN.out _ (below_drewN HB2.out _)).2.1 Try.underlying34 rfl (by kernel_rfl) ?_) | fail)
              refine (HAN.out S _ (HSN.out _ (below_drewN HB2.out _)).1 false).mono ?_
              rintro e w4 ⟨⟨D, d, rfl, hms⟩, hb4⟩
              have HO : Hid (OutR w g A S [S.ans ⟨mk, frm, to, term, index, logTerm, ents, commit, mok⟩ 2 0 false] (.returned (.slice D 1 d)) w4) := OutR.ans ⟨A, cs, (HSN.out _ (below_drewN HB2.out _)).1, .of_below (HSN.out _ (below_drewN HB2.out _)).2.2, fun a ha => .inl ⟨a, ha, rfl⟩⟩ HR.out hms hb4
              clear hms hb4
              go_wp2_with fail
              go_ret
              have h := HQ.out
              rw [HGB.out] at h
              simp at h
              obtain ⟨h1, h2⟩ := h
              rw [h1, h2]
              exact HO.out
            · go_quiet (fail)
              have HB1 : Hid (Below w0.heap.size w0 (w0.drewN nq)) := Lib.hid (below_drewN (Below.refl _ _) nq)
              generalize w0.drewN nq = w1 at *
              have p3 := (HSN.out w1 HB1.out).1.c3
              have q1 : w1.cell? ⟨w.heap.size, 1, none⟩ = some (.int .i64 frm) := (HSN.out w1 HB1.out).2.1.cell 1
              go_wp2_with fail
              go_quiet (fail)
              have HB2 : Hid (Below w0.heap.size w0 (w1.drewN nq)) := Lib.hid (below_drewN HB1.out nq)
              generalize w1.drewN nq = w2 at *
              have r1 : w2.cell? ⟨w.heap.size, 1, none⟩ = some (.int .i64 frm) := (HSN.out w2 HB2.out).2.1.cell 1
              have r4 : w2.cell? ⟨w.heap.size, 4, none⟩ = some (.int .i64 index) := (HSN.out w2 HB2.out).2.1.cell 4
              have r5 : w2.cell? ⟨w.heap.size, 5, none⟩ = some (.int .i64 logTerm) := (HSN.out w2 HB2.out).2.1.cell 5
              have s3 := (HSN.out w2 HB2.out).1.c3
              have t3 : w2.frozen? ⟨g, 3, none⟩ = false := (HSN.out w2 HB2.out).1.top.frozen 3
              have HTN := Lib.hid (fun N => HT.out (w2.drewN N) (below_drewN HB2.out N))
              go_wp2_with fail
              go_quiet (refine Calls.quiet_of_same (HTN.out _))
              go_wp2_with (first | (refine wpList_load_row rfl 34 _ rfl w.heap.size rfl 34 #[.int .u8 (mk : Nat), .int .i64 frm, .int .i64 to, .int .i64 term, .int .i64 index, .int .i64 logTerm, .slice E n c, .int .i64 commit, .bool mok] (0, 0) _ (HSN.out _ (below_drewN HB2.out _)).2.1 Try.underlying34 rfl (by kernel_rfl) ?_) | fail)
              refine (HAN.out S _ (HSN.out _ (below_drewN HB2.out _)).1 false).mono ?_
              rintro e w4 ⟨⟨D, d, rfl, hms⟩, hb4⟩
              have HO : Hid (OutR w g A S [S.ans ⟨mk, frm, to, term, index, logTerm, ents, commit, mok⟩ 2 0 false] (.returned (.slice D 1 d)) w4) := OutR.ans ⟨A, cs, (HSN.out _ (below_drewN HB2.out _)).1, .of_below (HSN.out _ (below_drewN HB2.out _)).2.2, fun a ha => .inl ⟨a, ha, rfl⟩⟩ HR.out hms hb4
              clear hms hb4
              go_wp2_with fail
              go_ret
              have h := HQ.out
              rw [HGB.out] at h
              simp at h
              obtain ⟨h1, h2⟩ := h
              rw [h1, h2]
              exact HO.out
        · go_quiet (fail)
          have HB1 : Hid (Below w0.heap.size w0 (w0.drewN nq)) := Lib.hid (below_drewN (Below.refl _ _) nq)
          generalize w0.drewN nq = w1 at *
          have p3 := (HSN.out w1 HB1.out).1.c3
          have q1 : w1.cell? ⟨w.heap.size, 1, none⟩ = some (.int .i64 frm) := (HSN.out w1 HB1.out).2.1.cell 1
          go_wp2_with fail
          go_quiet (fail)
          have HB2 : Hid (Below w0.heap.size w0 (w1.drewN nq)) := Lib.hid (below_drewN HB1.out nq)
          generalize w1.drewN nq = w2 at *
          have r1 : w2.cell? ⟨w.heap.size, 1, none⟩ = some (.int .i64 frm) := (HSN.out w2 HB2.out).2.1.cell 1
          have r4 : w2.cell? ⟨w.heap.size, 4, none⟩ = some (.int .i64 index) := (HSN.out w2 HB2.out).2.1.cell 4
          have r5 : w2.cell? ⟨w.heap.size, 5, none⟩ = some (.int .i64 logTerm) := (HSN.out w2 HB2.out).2.1.cell 5
          have s3 := (HSN.out w2 HB2.out).1.c3
          have t3 : w2.frozen? ⟨g, 3, none⟩ = false := (HSN.out w2 HB2.out).1.top.frozen 3
          have HTN := Lib.hid (fun N => HT.out (w2.drewN N) (below_drewN HB2.out N))
          go_wp2_with fail
          go_quiet (refine Calls.quiet_of_same (HTN.out _))
          go_wp2_with (first | (refine wpList_load_row rfl 34 _ rfl w.heap.size rfl 34 #[.int .u8 (mk : Nat), .int .i64 frm, .int .i64 to, .int .i64 term, .int .i64 index, .int .i64 logTerm, .slice E n c, .int .i64 commit, .bool mok] (0, 0) _ (HSN.out _ (below_drewN HB2.out _)).2.1 Try.underlying34 rfl (by kernel_rfl) ?_) | fail)
          refine (HAN.out S _ (HSN.out _ (below_drewN HB2.out _)).1 false).mono ?_
          rintro e w4 ⟨⟨D, d, rfl, hms⟩, hb4⟩
          have HO : Hid (OutR w g A S [S.ans ⟨mk, frm, to, term, index, logTerm, ents, commit, mok⟩ 2 0 false] (.returned (.slice D 1 d)) w4) := OutR.ans ⟨A, cs, (HSN.out _ (below_drewN HB2.out _)).1, .of_below (HSN.out _ (below_drewN HB2.out _)).2.2, fun a ha => .inl ⟨a, ha, rfl⟩⟩ HR.out hms hb4
          clear hms hb4
          go_wp2_with fail
          go_ret
          have h := HQ.out
          rw [HGB.out] at h
          simp at h
          obtain ⟨h1, h2⟩ := h
          rw [h1, h2]
          exact HO.out
end Go.Proofs.Ytjodglepaeomiaa
