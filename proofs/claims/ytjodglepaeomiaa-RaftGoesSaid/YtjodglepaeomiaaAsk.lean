/- Contract of asked. -/
import Derived.Test.YtjodglepaeomiaaOne
namespace Go.Proofs.Ytjodglepaeomiaa
open Go.RowKit

/-- A message in a box. -/
abbrev mbox (E : Option Addr) (c : Nat) (m : Mg) : Obj := .cells (mcell E c m).toArray 34
theorem OutS.ans {w w1 w' : World} {g : Nat} {A : Option Addr} {S' : Sv} {m : Mg} {D : Option Addr} {d : Nat} (k : KeepsM w g A S' w1) (hm : MsR w' w1.heap.size D 1 d [m]) (hb : Below w1.heap.size w1 w') : OutS w g A S' [m] (.returned (.slice D 1 d)) w' :=
  .of k ⟨D, d, rfl, hm, hb⟩
set_option maxRecDepth 100000 in
set_option maxHeartbeats 16000000 in
theorem asked_any (S : Sv) (m : Mg) (g : Nat) (A E : Option Addr) (cs c : Nat) (w : World) (hS : SvM w g S A cs) (hl : S.log.length ≤ 4096) :
    Calls Try.prog 43 #[.pointer (some ⟨g, 0, none⟩), .agg (mcell E c m).toArray] w (OutS w g A (S.asked m).1 (S.asked m).2) := by
  have HQ := Lib.hid (show S.asked m = if S.grants m then ({ S with vote := m.frm }, [S.ans m 2 0 true]) else (S, [S.ans m 2 0 false]) from rfl)
  have HAN := Lib.hid (fun (S' : Sv) W (h : SvM W g S' A cs) ok => answer_any S' m g A E cs c 2 0 ok W h)
  have HG := Lib.hid (show S.grants m = (decide (m.term = S.term) && (decide (S.vote = -1) || decide (S.vote = m.frm)) && (decide (termAt S.log S.log.length < m.logTerm) || (decide (m.logTerm = termAt S.log S.log.length) && decide ((S.log.length : Int) ≤ m.index)))) from rfl)
  obtain ⟨gb, hgb⟩ : ∃ b, b = S.grants m := ⟨_, rfl⟩
  rw [← hgb] at HQ HG
  clear hgb
  obtain ⟨S', ms, hq⟩ : ∃ (S' : Sv) (ms : List Mg), S.asked m = (S', ms) := ⟨_, _, rfl⟩
  rw [hq] at HQ ⊢
  clear hq
  dsimp only
  obtain ⟨mk, frm, to, term, index, logTerm, ents, commit, mok⟩ := m
  dsimp only [mcell] at HQ HG HAN ⊢
  generalize ents.length = n at *
  have HBX : Hid (Below w.heap.size w (w.alloc (.cells #[.int .u8 (mk : Nat), .int .i64 frm, .int .i64 to, .int .i64 term, .int .i64 index, .int .i64 logTerm, .slice E n c, .int .i64 commit, .bool mok] 34)) ∧ Blk (w.alloc (.cells #[.int .u8 (mk : Nat), .int .i64 frm, .int .i64 to, .int .i64 term, .int .i64 index, .int .i64 logTerm, .slice E n c, .int .i64 commit, .bool mok] 34)) w.heap.size 34 #[.int .u8 (mk : Nat), .int .i64 frm, .int .i64 to, .int .i64 term, .int .i64 index, .int .i64 logTerm, .slice E n c, .int .i64 commit, .bool mok]) := ⟨(Below.refl _ w).alloc (Nat.le_refl _) _, Blk.new _ _ _⟩
  have HS := Lib.hid (hS.below HBX.out.1)
  have hbg : ¬ w.heap.size = g := by have := hS.lt; omega
  obtain ⟨l, hll⟩ : ∃ l, l = S.log.length := ⟨_, rfl⟩
  have HL := Lib.hid (fun N => last_any ((w.alloc (.cells #[.int .u8 (mk : Nat), .int .i64 frm, .int .i64 to, .int .i64 term, .int .i64 index, .int .i64 logTerm, .slice E n c, .int .i64 commit, .bool mok] 34)).drewN N) g l cs A (by rw [hll]; exact (HS.out.drewN N).c4))
  have HL0 := Lib.hid (last_any (w.alloc (.cells #[.int .u8 (mk : Nat), .int .i64 frm, .int .i64 to, .int .i64 term, .int .i64 index, .int .i64 logTerm, .slice E n c, .int .i64 commit, .bool mok] 34)) g l cs A (by rw [hll]; exact HS.out.c4))
  have HT := Lib.hid (term_any HS.out l (by omega) (by omega))
  rw [← hll] at HG hl
  obtain ⟨top, htop⟩ : ∃ t, t = termAt S.log l := ⟨_, rfl⟩
  rw [← htop] at HG HT
  clear hS hll htop
  go_enter Try.func43, Try.ntmps43
  go_wp2_with fail
  generalize w.alloc (.cells #[.int .u8 (mk : Nat), .int .i64 frm, .int .i64 to, .int .i64 term, .int .i64 index, .int .i64 logTerm, .slice E n c, .int .i64 commit, .bool mok] 34) = w0 at *
  have x1 : w0.cell? ⟨w.heap.size, 1, none⟩ = some (.int .i64 frm) := HBX.out.2.cell 1
  have x3 : w0.cell? ⟨w.heap.size, 3, none⟩ = some (.int .i64 term) := HBX.out.2.cell 3
  have x4 : w0.cell? ⟨w.heap.size, 4, none⟩ = some (.int .i64 index) := HBX.out.2.cell 4
  have x5 : w0.cell? ⟨w.heap.size, 5, none⟩ = some (.int .i64 logTerm) := HBX.out.2.cell 5
  have c2 := HS.out.c2
  have c3 := HS.out.c3
  have f3 : w0.frozen? ⟨g, 3, none⟩ = false := HS.out.top.frozen 3
  refine HL0.out.mono ?_
  rintro e w1 ⟨rfl, hw1⟩
  rw [hw1]
  clear hw1 w1
  go_wp2_with fail
  refine HT.out.mono ?_
  rintro e w1 ⟨rfl, hw1⟩
  rw [hw1]
  clear hw1 w1 HL0 HT
  go_wp2_with fail
  obtain ⟨nw, hnw⟩ : ∃ b, b = (decide (top < logTerm) || (decide (logTerm = top) && decide ((l : Int) ≤ index))) := ⟨_, rfl⟩
  have hN : (decide (top < logTerm) = true ∧ nw = true) ∨ (decide (top < logTerm) = false ∧ (logTerm == top) = false ∧ nw = false) ∨ (decide (top < logTerm) = false ∧ (logTerm == top) = true ∧ decide ((l : Int) ≤ index) = true ∧ nw = true) ∨ (decide (top < logTerm) = false ∧ (logTerm == top) = true ∧ decide ((l : Int) ≤ index) = false ∧ nw = false) := by
    rw [hnw, show decide (logTerm = top) = (logTerm == top) from by rw [Bool.eq_iff_iff]; simp]
    cases decide (top < logTerm) <;> cases (logTerm == top) <;> cases decide ((l : Int) ≤ index) <;> simp
  rw [← hnw] at HG
  clear hnw
  have hO : ((term == S.term) = false ∧ gb = false) ∨ ((term == S.term) = true ∧ (S.vote == -1) = true ∧ gb = nw) ∨ ((term == S.term) = true ∧ (S.vote == -1) = false ∧ (S.vote == frm) = true ∧ gb = nw) ∨ ((term == S.term) = true ∧ (S.vote == -1) = false ∧ (S.vote == frm) = false ∧ gb = false) := by
    rw [HG.out, show decide (term = S.term) = (term == S.term) from by rw [Bool.eq_iff_iff]; simp, show decide (S.vote = -1) = (S.vote == -1) from by rw [Bool.eq_iff_iff]; simp, show decide (S.vote = frm) = (S.vote == frm) from by rw [Bool.eq_iff_iff]; simp]
    cases (term == S.term) <;> cases (S.vote == -1) <;> cases (S.vote == frm) <;> simp
  clear HG
  have HST : Hid (∀ N, SvM ((w0.drewN N).setCell ⟨g, 3, none⟩ (.int .i64 frm)) g { S with vote := frm } A cs ∧ Blk ((w0.drewN N).setCell ⟨g, 3, none⟩ (.int .i64 frm)) w.heap.size 34 #[.int .u8 (mk : Nat), .int .i64 frm, .int .i64 to, .int .i64 term, .int .i64 index, .int .i64 logTerm, .slice E n c, .int .i64 commit, .bool mok] ∧ Chg (fun b => b = g) w0 ((w0.drewN N).setCell ⟨g, 3, none⟩ (.int .i64 frm))) := fun N => by
    have hst := (HS.out.drewN N).set (S' := { S with vote := frm }) 3 (.int .i64 frm) rfl HS.out.nxl HS.out.mtl rfl
    exact ⟨hst.1, (HBX.out.2.drewN N).chg hst.2 (fun h => hbg h), ((Chg.refl (fun b => b = g) w0).drewN N).trans hst.2⟩
  rcases hN with ⟨n1, rfl⟩ | ⟨n1, n2, rfl⟩ | ⟨n1, n2, n3, rfl⟩ | ⟨n1, n2, n3, rfl⟩
  all_goals rcases hO with ⟨o1, rfl⟩ | ⟨o1, o2, rfl⟩ | ⟨o1, o2, o3, rfl⟩ | ⟨o1, o2, o3, rfl⟩
  · go_quiet (refine Calls.quiet_of_same (HL.out _))
    go_wp2_with fail
    go_quiet (fail)
    go_wp2_with (first | (refine wpList_load_row rfl 34 _ rfl w.heap.size rfl 34 #[.int .u8 (mk : Nat), .int .i64 frm, .int .i64 to, .int .i64 term, .int .i64 index, .int .i64 logTerm, .slice E n c, .int .i64 commit, .bool mok] (0, 0) _ (HST.out _).2.1 Try.underlying34 rfl (by kernel_rfl) ?_) | (refine wpList_load_row rfl 34 _ rfl w.heap.size rfl 34 #[.int .u8 (mk : Nat), .int .i64 frm, .int .i64 to, .int .i64 term, .int .i64 index, .int .i64 logTerm, .slice E n c, .int .i64 commit, .bool mok] (0, 0) _ HBX.out.2 Try.underlying34 rfl (by kernel_rfl) ?_))
    refine (HAN.out S _ (HS.out.drewN _) false).mono ?_
    rintro e w4 ⟨⟨D, d, rfl, hms⟩, hb4⟩
    have HO : Hid (OutS w g A S [S.ans ⟨mk, frm, to, term, index, logTerm, ents, commit, mok⟩ 2 0 false] (.returned (.slice D 1 d)) w4) := OutS.ans ⟨A, cs, HS.out.drewN _, .of_below (below_drewN HBX.out.1 _), fun a ha => .inl ⟨a, ha, rfl⟩⟩ hms hb4
    clear hms hb4
    go_wp2_with fail
    go_ret
    have h := HQ.out
    simp only [Bool.false_eq_true, if_false, if_true] at h
    injection h with h1 h2
    rw [h1, h2]
    exact HO.out
  · go_quiet (refine Calls.quiet_of_same (HL.out _))
    go_wp2_with fail
    go_quiet (fail)
    go_wp2_with (first | (refine wpList_load_row rfl 34 _ rfl w.heap.size rfl 34 #[.int .u8 (mk : Nat), .int .i64 frm, .int .i64 to, .int .i64 term, .int .i64 index, .int .i64 logTerm, .slice E n c, .int .i64 commit, .bool mok] (0, 0) _ (HST.out _).2.1 Try.underlying34 rfl (by kernel_rfl) ?_) | (refine wpList_load_row rfl 34 _ rfl w.heap.size rfl 34 #[.int .u8 (mk : Nat), .int .i64 frm, .int .i64 to, .int .i64 term, .int .i64 index, .int .i64 logTerm, .slice E n c, .int .i64 commit, .bool mok] (0, 0) _ HBX.out.2 Try.underlying34 rfl (by kernel_rfl) ?_))
    refine (HAN.out { S with vote := frm } _ (HST.out _).1 true).mono ?_
    rintro e w4 ⟨⟨D, d, rfl, hms⟩, hb4⟩
    have HO : Hid (OutS w g A { S with vote := frm } [S.ans ⟨mk, frm, to, term, index, logTerm, ents, commit, mok⟩ 2 0 true] (.returned (.slice D 1 d)) w4) := OutS.ans ⟨A, cs, (HST.out _).1, ((Chg.of_below HBX.out.1).trans (HST.out _).2.2).mono (fun b hb => .inl hb), fun a ha => .inl ⟨a, ha, rfl⟩⟩ hms hb4
    clear hms hb4
    go_wp2_with fail
    go_ret
    have h := HQ.out
    simp only [Bool.false_eq_true, if_false, if_true] at h
    injection h with h1 h2
    rw [h1, h2]
    exact HO.out
  · go_quiet (refine Calls.quiet_of_same (HL.out _))
    go_wp2_with fail
    go_quiet (fail)
    go_wp2_with (first | (refine wpList_load_row rfl 34 _ rfl w.heap.size rfl 34 #[.int .u8 (mk : Nat), .int .i64 frm, .int .i64 to, .int .i64 term, .int .i64 index, .int .i64 logTerm, .slice E n c, .int .i64 commit, .bool mok] (0, 0) _ (HST.out _).2.1 Try.underlying34 rfl (by kernel_rfl) ?_) | (refine wpList_load_row rfl 34 _ rfl w.heap.size rfl 34 #[.int .u8 (mk : Nat), .int .i64 frm, .int .i64 to, .int .i64 term, .int .i64 index, .int .i64 logTerm, .slice E n c, .int .i64 commit, .bool mok] (0, 0) _ HBX.out.2 Try.underlying34 rfl (by kernel_rfl) ?_))
    refine (HAN.out { S with vote := frm } _ (HST.out _).1 true).mono ?_
    rintro e w4 ⟨⟨D, d, rfl, hms⟩, hb4⟩
    have HO : Hid (OutS w g A { S with vote := frm } [S.ans ⟨mk, frm, to, term, index, logTerm, ents, commit, mok⟩ 2 0 true] (.returned (.slice D 1 d)) w4) := OutS.ans ⟨A, cs, (HST.out _).1, ((Chg.of_below HBX.out.1).trans (HST.out _).2.2).mono (fun b hb => .inl hb), fun a ha => .inl ⟨a, ha, rfl⟩⟩ hms hb4
    clear hms hb4
    go_wp2_with fail
    go_ret
    have h := HQ.out
    simp only [Bool.false_eq_true, if_false, if_true] at h
    injection h with h1 h2
    rw [h1, h2]
    exact HO.out
  · go_quiet (refine Calls.quiet_of_same (HL.out _))
    go_wp2_with fail
    go_quiet (fail)
    go_wp2_with (first | (refine wpList_load_row rfl 34 _ rfl w.heap.size rfl 34 #[.int .u8 (mk : Nat), .int .i64 frm, .int .i64 to, .int .i64 term, .int .i64 index, .int .i64 logTerm, .slice E n c, .int .i64 commit, .bool mok] (0, 0) _ (HST.out _).2.1 Try.underlying34 rfl (by kernel_rfl) ?_) | (refine wpList_load_row rfl 34 _ rfl w.heap.size rfl 34 #[.int .u8 (mk : Nat), .int .i64 frm, .int .i64 to, .int .i64 term, .int .i64 index, .int .i64 logTerm, .slice E n c, .int .i64 commit, .bool mok] (0, 0) _ HBX.out.2 Try.underlying34 rfl (by kernel_rfl) ?_))
    refine (HAN.out S _ (HS.out.drewN _) false).mono ?_
    rintro e w4 ⟨⟨D, d, rfl, hms⟩, hb4⟩
    have HO : Hid (OutS w g A S [S.ans ⟨mk, frm, to, term, index, logTerm, ents, commit, mok⟩ 2 0 false] (.returned (.slice D 1 d)) w4) := OutS.ans ⟨A, cs, HS.out.drewN _, .of_below (below_drewN HBX.out.1 _), fun a ha => .inl ⟨a, ha, rfl⟩⟩ hms hb4
    clear hms hb4
    go_wp2_with fail
    go_ret
    have h := HQ.out
    simp only [Bool.false_eq_true, if_false, if_true] at h
    injection h with h1 h2
    rw [h1, h2]
    exact HO.out
  · go_quiet (refine Calls.quiet_of_same (HL.out _))
    go_wp2_with fail
    go_quiet (fail)
    go_wp2_with (first | (refine wpList_load_row rfl 34 _ rfl w.heap.size rfl 34 #[.int .u8 (mk : Nat), .int .i64 frm, .int .i64 to, .int .i64 term, .int .i64 index, .int .i64 logTerm, .slice E n c, .int .i64 commit, .bool mok] (0, 0) _ (HST.out _).2.1 Try.underlying34 rfl (by kernel_rfl) ?_) | (refine wpList_load_row rfl 34 _ rfl w.heap.size rfl 34 #[.int .u8 (mk : Nat), .int .i64 frm, .int .i64 to, .int .i64 term, .int .i64 index, .int .i64 logTerm, .slice E n c, .int .i64 commit, .bool mok] (0, 0) _ HBX.out.2 Try.underlying34 rfl (by kernel_rfl) ?_))
    refine (HAN.out S _ (HS.out.drewN _) false).mono ?_
    rintro e w4 ⟨⟨D, d, rfl, hms⟩, hb4⟩
    have HO : Hid (OutS w g A S [S.ans ⟨mk, frm, to, term, index, logTerm, ents, commit, mok⟩ 2 0 false] (.returned (.slice D 1 d)) w4) := OutS.ans ⟨A, cs, HS.out.drewN _, .of_below (below_drewN HBX.out.1 _), fun a ha => .inl ⟨a, ha, rfl⟩⟩ hms hb4
    clear hms hb4
    go_wp2_with fail
    go_ret
    have h := HQ.out
    simp only [Bool.false_eq_true, if_false, if_true] at h
    injection h with h1 h2
    rw [h1, h2]
    exact HO.out
  · go_quiet (refine Calls.quiet_of_same (HL.out _))
    go_wp2_with fail
    go_quiet (fail)
    go_wp2_with (first | (refine wpList_load_row rfl 34 _ rfl w.heap.size rfl 34 #[.int .u8 (mk : Nat), .int .i64 frm, .int .i64 to, .int .i64 term, .int .i64 index, .int .i64 logTerm, .slice E n c, .int .i64 commit, .bool mok] (0, 0) _ (HST.out _).2.1 Try.underlying34 rfl (by kernel_rfl) ?_) | (refine wpList_load_row rfl 34 _ rfl w.heap.size rfl 34 #[.int .u8 (mk : Nat), .int .i64 frm, .int .i64 to, .int .i64 term, .int .i64 index, .int .i64 logTerm, .slice E n c, .int .i64 commit, .bool mok] (0, 0) _ HBX.out.2 Try.underlying34 rfl (by kernel_rfl) ?_))
    refine (HAN.out S _ (HS.out.drewN _) false).mono ?_
    rintro e w4 ⟨⟨D, d, rfl, hms⟩, hb4⟩
    have HO : Hid (OutS w g A S [S.ans ⟨mk, frm, to, term, index, logTerm, ents, commit, mok⟩ 2 0 false] (.returned (.slice D 1 d)) w4) := OutS.ans ⟨A, cs, HS.out.drewN _, .of_below (below_drewN HBX.out.1 _), fun a ha => .inl ⟨a, ha, rfl⟩⟩ hms hb4
    clear hms hb4
    go_wp2_with fail
    go_ret
    have h := HQ.out
    simp only [Bool.false_eq_true, if_false, if_true] at h
    injection h with h1 h2
    rw [h1, h2]
    exact HO.out
  · go_quiet (refine Calls.quiet_of_same (HL.out _))
    go_wp2_with fail
    go_quiet (fail)
    go_wp2_with (first | (refine wpList_load_row rfl 34 _ rfl w.heap.size rfl 34 #[.int .u8 (mk : Nat), .int .i64 frm, .int .i64 to, .int .i64 term, .int .i64 index, .int .i64 logTerm, .slice E n c, .int .i64 commit, .bool mok] (0, 0) _ (HST.out _).2.1 Try.underlying34 rfl (by kernel_rfl) ?_) | (refine wpList_load_row rfl 34 _ rfl w.heap.size rfl 34 #[.int .u8 (mk : Nat), .int .i64 frm, .int .i64 to, .int .i64 term, .int .i64 index, .int .i64 logTerm, .slice E n c, .int .i64 commit, .bool mok] (0, 0) _ HBX.out.2 Try.underlying34 rfl (by kernel_rfl) ?_))
    refine (HAN.out S _ (HS.out.drewN _) false).mono ?_
    rintro e w4 ⟨⟨D, d, rfl, hms⟩, hb4⟩
    have HO : Hid (OutS w g A S [S.ans ⟨mk, frm, to, term, index, logTerm, ents, commit, mok⟩ 2 0 false] (.returned (.slice D 1 d)) w4) := OutS.ans ⟨A, cs, HS.out.drewN _, .of_below (below_drewN HBX.out.1 _), fun a ha => .inl ⟨a, ha, rfl⟩⟩ hms hb4
    clear hms hb4
    go_wp2_with fail
    go_ret
    have h := HQ.out
    simp only [Bool.false_eq_true, if_false, if_true] at h
    injection h with h1 h2
    rw [h1, h2]
    exact HO.out
  · go_quiet (refine Calls.quiet_of_same (HL.out _))
    go_wp2_with fail
    go_quiet (fail)
    go_wp2_with (first | (refine wpList_load_row rfl 34 _ rfl w.heap.size rfl 34 #[.int .u8 (mk : Nat), .int .i64 frm, .int .i64 to, .int .i64 term, .int .i64 index, .int .i64 logTerm, .slice E n c, .int .i64 commit, .bool mok] (0, 0) _ (HST.out _).2.1 Try.underlying34 rfl (by kernel_rfl) ?_) | (refine wpList_load_row rfl 34 _ rfl w.heap.size rfl 34 #[.int .u8 (mk : Nat), .int .i64 frm, .int .i64 to, .int .i64 term, .int .i64 index, .int .i64 logTerm, .slice E n c, .int .i64 commit, .bool mok] (0, 0) _ HBX.out.2 Try.underlying34 rfl (by kernel_rfl) ?_))
    refine (HAN.out S _ (HS.out.drewN _) false).mono ?_
    rintro e w4 ⟨⟨D, d, rfl, hms⟩, hb4⟩
    have HO : Hid (OutS w g A S [S.ans ⟨mk, frm, to, term, index, logTerm, ents, commit, mok⟩ 2 0 false] (.returned (.slice D 1 d)) w4) := OutS.ans ⟨A, cs, HS.out.drewN _, .of_below (below_drewN HBX.out.1 _), fun a ha => .inl ⟨a, ha, rfl⟩⟩ hms hb4
    clear hms hb4
    go_wp2_with fail
    go_ret
    have h := HQ.out
    simp only [Bool.false_eq_true, if_false, if_true] at h
    injection h with h1 h2
    rw [h1, h2]
    exact HO.out
  · go_quiet (refine Calls.quiet_of_same (HL.out _))
    go_wp2_with fail
    go_quiet (fail)
    go_wp2_with (first | (refine wpList_load_row rfl 34 _ rfl w.heap.size rfl 34 #[.int .u8 (mk : Nat), .int .i64 frm, .int .i64 to, .int .i64 term, .int .i64 index, .int .i64 logTerm, .slice E n c, .int .i64 commit, .bool mok] (0, 0) _ (HST.out _).2.1 Try.underlying34 rfl (by kernel_rfl) ?_) | (refine wpList_load_row rfl 34 _ rfl w.heap.size rfl 34 #[.int .u8 (mk : Nat), .int .i64 frm, .int .i64 to, .int .i64 term, .int .i64 index, .int .i64 logTerm, .slice E n c, .int .i64 commit, .bool mok] (0, 0) _ HBX.out.2 Try.underlying34 rfl (by kernel_rfl) ?_))
    refine (HAN.out S _ (HS.out.drewN _) false).mono ?_
    rintro e w4 ⟨⟨D, d, rfl, hms⟩, hb4⟩
    have HO : Hid (OutS w g A S [S.ans ⟨mk, frm, to, term, index, logTerm, ents, commit, mok⟩ 2 0 false] (.returned (.slice D 1 d)) w4) := OutS.ans ⟨A, cs, HS.out.drewN _, .of_below (below_drewN HBX.out.1 _), fun a ha => .inl ⟨a, ha, rfl⟩⟩ hms hb4
    clear hms hb4
    go_wp2_with fail
    go_ret
    have h := HQ.out
    simp only [Bool.false_eq_true, if_false, if_true] at h
    injection h with h1 h2
    rw [h1, h2]
    exact HO.out
  · go_quiet (refine Calls.quiet_of_same (HL.out _))
    go_wp2_with fail
    go_quiet (fail)
    go_wp2_with (first | (refine wpList_load_row rfl 34 _ rfl w.heap.size rfl 34 #[.int .u8 (mk : Nat), .int .i64 frm, .int .i64 to, .int .i64 term, .int .i64 index, .int .i64 logTerm, .slice E n c, .int .i64 commit, .bool mok] (0, 0) _ (HST.out _).2.1 Try.underlying34 rfl (by kernel_rfl) ?_) | (refine wpList_load_row rfl 34 _ rfl w.heap.size rfl 34 #[.int .u8 (mk : Nat), .int .i64 frm, .int .i64 to, .int .i64 term, .int .i64 index, .int .i64 logTerm, .slice E n c, .int .i64 commit, .bool mok] (0, 0) _ HBX.out.2 Try.underlying34 rfl (by kernel_rfl) ?_))
    refine (HAN.out { S with vote := frm } _ (HST.out _).1 true).mono ?_
    rintro e w4 ⟨⟨D, d, rfl, hms⟩, hb4⟩
    have HO : Hid (OutS w g A { S with vote := frm } [S.ans ⟨mk, frm, to, term, index, logTerm, ents, commit, mok⟩ 2 0 true] (.returned (.slice D 1 d)) w4) := OutS.ans ⟨A, cs, (HST.out _).1, ((Chg.of_below HBX.out.1).trans (HST.out _).2.2).mono (fun b hb => .inl hb), fun a ha => .inl ⟨a, ha, rfl⟩⟩ hms hb4
    clear hms hb4
    go_wp2_with fail
    go_ret
    have h := HQ.out
    simp only [Bool.false_eq_true, if_false, if_true] at h
    injection h with h1 h2
    rw [h1, h2]
    exact HO.out
  · go_quiet (refine Calls.quiet_of_same (HL.out _))
    go_wp2_with fail
    go_quiet (fail)
    go_wp2_with (first | (refine wpList_load_row rfl 34 _ rfl w.heap.size rfl 34 #[.int .u8 (mk : Nat), .int .i64 frm, .int .i64 to, .int .i64 term, .int .i64 index, .int .i64 logTerm, .slice E n c, .int .i64 commit, .bool mok] (0, 0) _ (HST.out _).2.1 Try.underlying34 rfl (by kernel_rfl) ?_) | (refine wpList_load_row rfl 34 _ rfl w.heap.size rfl 34 #[.int .u8 (mk : Nat), .int .i64 frm, .int .i64 to, .int .i64 term, .int .i64 index, .int .i64 logTerm, .slice E n c, .int .i64 commit, .bool mok] (0, 0) _ HBX.out.2 Try.underlying34 rfl (by kernel_rfl) ?_))
    refine (HAN.out { S with vote := frm } _ (HST.out _).1 true).mono ?_
    rintro e w4 ⟨⟨D, d, rfl, hms⟩, hb4⟩
    have HO : Hid (OutS w g A { S with vote := frm } [S.ans ⟨mk, frm, to, term, index, logTerm, ents, commit, mok⟩ 2 0 true] (.returned (.slice D 1 d)) w4) := OutS.ans ⟨A, cs, (HST.out _).1, ((Chg.of_below HBX.out.1).trans (HST.out _).2.2).mono (fun b hb => .inl hb), fun a ha => .inl ⟨a, ha, rfl⟩⟩ hms hb4
    clear hms hb4
    go_wp2_with fail
    go_ret
    have h := HQ.out
    simp only [Bool.false_eq_true, if_false, if_true] at h
    injection h with h1 h2
    rw [h1, h2]
    exact HO.out
  · go_quiet (refine Calls.quiet_of_same (HL.out _))
    go_wp2_with fail
    go_quiet (fail)
    go_wp2_with (first | (refine wpList_load_row rfl 34 _ rfl w.heap.size rfl 34 #[.int .u8 (mk : Nat), .int .i64 frm, .int .i64 to, .int .i64 term, .int .i64 index, .int .i64 logTerm, .slice E n c, .int .i64 commit, .bool mok] (0, 0) _ (HST.out _).2.1 Try.underlying34 rfl (by kernel_rfl) ?_) | (refine wpList_load_row rfl 34 _ rfl w.heap.size rfl 34 #[.int .u8 (mk : Nat), .int .i64 frm, .int .i64 to, .int .i64 term, .int .i64 index, .int .i64 logTerm, .slice E n c, .int .i64 commit, .bool mok] (0, 0) _ HBX.out.2 Try.underlying34 rfl (by kernel_rfl) ?_))
    refine (HAN.out S _ (HS.out.drewN _) false).mono ?_
    rintro e w4 ⟨⟨D, d, rfl, hms⟩, hb4⟩
    have HO : Hid (OutS w g A S [S.ans ⟨mk, frm, to, term, index, logTerm, ents, commit, mok⟩ 2 0 false] (.returned (.slice D 1 d)) w4) := OutS.ans ⟨A, cs, HS.out.drewN _, .of_below (below_drewN HBX.out.1 _), fun a ha => .inl ⟨a, ha, rfl⟩⟩ hms hb4
    clear hms hb4
    go_wp2_with fail
    go_ret
    have h := HQ.out
    simp only [Bool.false_eq_true, if_false, if_true] at h
    injection h with h1 h2
    rw [h1, h2]
    exact HO.out
  · go_quiet (refine Calls.quiet_of_same (HL.out _))
    go_wp2_with fail
    go_quiet (fail)
    go_wp2_with (first | (refine wpList_load_row rfl 34 _ rfl w.heap.size rfl 34 #[.int .u8 (mk : Nat), .int .i64 frm, .int .i64 to, .int .i64 term, .int .i64 index, .int .i64 logTerm, .slice E n c, .int .i64 commit, .bool mok] (0, 0) _ (HST.out _).2.1 Try.underlying34 rfl (by kernel_rfl) ?_) | (refine wpList_load_row rfl 34 _ rfl w.heap.size rfl 34 #[.int .u8 (mk : Nat), .int .i64 frm, .int .i64 to, .int .i64 term, .int .i64 index, .int .i64 logTerm, .slice E n c, .int .i64 commit, .bool mok] (0, 0) _ HBX.out.2 Try.underlying34 rfl (by kernel_rfl) ?_))
    refine (HAN.out S _ (HS.out.drewN _) false).mono ?_
    rintro e w4 ⟨⟨D, d, rfl, hms⟩, hb4⟩
    have HO : Hid (OutS w g A S [S.ans ⟨mk, frm, to, term, index, logTerm, ents, commit, mok⟩ 2 0 false] (.returned (.slice D 1 d)) w4) := OutS.ans ⟨A, cs, HS.out.drewN _, .of_below (below_drewN HBX.out.1 _), fun a ha => .inl ⟨a, ha, rfl⟩⟩ hms hb4
    clear hms hb4
    go_wp2_with fail
    go_ret
    have h := HQ.out
    simp only [Bool.false_eq_true, if_false, if_true] at h
    injection h with h1 h2
    rw [h1, h2]
    exact HO.out
  · go_quiet (refine Calls.quiet_of_same (HL.out _))
    go_wp2_with fail
    go_quiet (fail)
    go_wp2_with (first | (refine wpList_load_row rfl 34 _ rfl w.heap.size rfl 34 #[.int .u8 (mk : Nat), .int .i64 frm, .int .i64 to, .int .i64 term, .int .i64 index, .int .i64 logTerm, .slice E n c, .int .i64 commit, .bool mok] (0, 0) _ (HST.out _).2.1 Try.underlying34 rfl (by kernel_rfl) ?_) | (refine wpList_load_row rfl 34 _ rfl w.heap.size rfl 34 #[.int .u8 (mk : Nat), .int .i64 frm, .int .i64 to, .int .i64 term, .int .i64 index, .int .i64 logTerm, .slice E n c, .int .i64 commit, .bool mok] (0, 0) _ HBX.out.2 Try.underlying34 rfl (by kernel_rfl) ?_))
    refine (HAN.out S _ (HS.out.drewN _) false).mono ?_
    rintro e w4 ⟨⟨D, d, rfl, hms⟩, hb4⟩
    have HO : Hid (OutS w g A S [S.ans ⟨mk, frm, to, term, index, logTerm, ents, commit, mok⟩ 2 0 false] (.returned (.slice D 1 d)) w4) := OutS.ans ⟨A, cs, HS.out.drewN _, .of_below (below_drewN HBX.out.1 _), fun a ha => .inl ⟨a, ha, rfl⟩⟩ hms hb4
    clear hms hb4
    go_wp2_with fail
    go_ret
    have h := HQ.out
    simp only [Bool.false_eq_true, if_false, if_true] at h
    injection h with h1 h2
    rw [h1, h2]
    exact HO.out
  · go_quiet (refine Calls.quiet_of_same (HL.out _))
    go_wp2_with fail
    go_quiet (fail)
    go_wp2_with (first | (refine wpList_load_row rfl 34 _ rfl w.heap.size rfl 34 #[.int .u8 (mk : Nat), .int .i64 frm, .int .i64 to, .int .i64 term, .int .i64 index, .int .i64 logTerm, .slice E n c, .int .i64 commit, .bool mok] (0, 0) _ (HST.out _).2.1 Try.underlying34 rfl (by kernel_rfl) ?_) | (refine wpList_load_row rfl 34 _ rfl w.heap.size rfl 34 #[.int .u8 (mk : Nat), .int .i64 frm, .int .i64 to, .int .i64 term, .int .i64 index, .int .i64 logTerm, .slice E n c, .int .i64 commit, .bool mok] (0, 0) _ HBX.out.2 Try.underlying34 rfl (by kernel_rfl) ?_))
    refine (HAN.out S _ (HS.out.drewN _) false).mono ?_
    rintro e w4 ⟨⟨D, d, rfl, hms⟩, hb4⟩
    have HO : Hid (OutS w g A S [S.ans ⟨mk, frm, to, term, index, logTerm, ents, commit, mok⟩ 2 0 false] (.returned (.slice D 1 d)) w4) := OutS.ans ⟨A, cs, HS.out.drewN _, .of_below (below_drewN HBX.out.1 _), fun a ha => .inl ⟨a, ha, rfl⟩⟩ hms hb4
    clear hms hb4
    go_wp2_with fail
    go_ret
    have h := HQ.out
    simp only [Bool.false_eq_true, if_false, if_true] at h
    injection h with h1 h2
    rw [h1, h2]
    exact HO.out
  · go_quiet (refine Calls.quiet_of_same (HL.out _))
    go_wp2_with fail
    go_quiet (fail)
    go_wp2_with (first | (refine wpList_load_row rfl 34 _ rfl w.heap.size rfl 34 #[.int .u8 (mk : Nat), .int .i64 frm, .int .i64 to, .int .i64 term, .int .i64 index, .int .i64 logTerm, .slice E n c, .int .i64 commit, .bool mok] (0, 0) _ (HST.out _).2.1 Try.underlying34 rfl (by kernel_rfl) ?_) | (refine wpList_load_row rfl 34 _ rfl w.heap.size rfl 34 #[.int .u8 (mk : Nat), .int .i64 frm, .int .i64 to, .int .i64 term, .int .i64 index, .int .i64 logTerm, .slice E n c, .int .i64 commit, .bool mok] (0, 0) _ HBX.out.2 Try.underlying34 rfl (by kernel_rfl) ?_))
    refine (HAN.out S _ (HS.out.drewN _) false).mono ?_
    rintro e w4 ⟨⟨D, d, rfl, hms⟩, hb4⟩
    have HO : Hid (OutS w g A S [S.ans ⟨mk, frm, to, term, index, logTerm, ents, commit, mok⟩ 2 0 false] (.returned (.slice D 1 d)) w4) := OutS.ans ⟨A, cs, HS.out.drewN _, .of_below (below_drewN HBX.out.1 _), fun a ha => .inl ⟨a, ha, rfl⟩⟩ hms hb4
    clear hms hb4
    go_wp2_with fail
    go_ret
    have h := HQ.out
    simp only [Bool.false_eq_true, if_false, if_true] at h
    injection h with h1 h2
    rw [h1, h2]
    exact HO.out
end Go.Proofs.Ytjodglepaeomiaa
