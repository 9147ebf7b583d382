/- Contract of told. -/
import Derived.Test.YtjodglepaeomiaaVot
namespace Go.Proofs.Ytjodglepaeomiaa
open Go.RowKit

theorem OutS.sent {w w3 w4 : World} {g c2 : Nat} {A E2 : Option Addr} {S' : Sv} {m : Mg} (k : KeepsM w g A S' w3) (ho : w4.ownsRow w3.heap.size 39 2 (.slice E2 m.ents.length c2) m.ents.length (rowOf ecell m.ents)) (hb : Below w3.heap.size w3 w4) :
    OutS w g A S' [m] (.returned (.slice (some ⟨w4.heap.size, 0, none⟩) 1 1)) (w4.alloc (mbox E2 c2 m)) :=
  .ans k (MsR.one (x := (m, E2, c2)) (own_new34 w4 w3.heap.size w4.heap.size rfl hb.size (m, E2, c2)) (own_below ho ((Below.refl _ w4).alloc (Nat.le_refl _) _))) (hb.alloc hb.size _)
set_option maxRecDepth 100000 in
set_option maxHeartbeats 16000000 in
theorem told_any (S : Sv) (m : Mg) (g k i : Nat) (A E : Option Addr) (cs c : Nat) (w : World) (hS : SvM w g S A cs) (hok : S.Ok) (hf : m.frm = (k : Nat)) (hk : k < S.n) (hi : m.index = (i : Nat)) (hi9 : i ≤ 4096) :
    Calls Try.prog 46 #[.pointer (some ⟨g, 0, none⟩), .agg (mcell E c m).toArray] w (OutS w g A (S.told m).1 (S.told m).2) := by
  have HK := Lib.hid (And.intro hok hk)
  have HQ := Lib.hid (show S.told m = (if S.role ≠ 2 ∨ m.term ≠ S.term ∨ (m.ok = true ∧ (S.log.length : Int) < m.index) then (S, [])
    else if m.ok = false then (S.back m.frm.toNat m.index.toNat, [(S.back m.frm.toNat m.index.toNat).send m.frm.toNat])
    else if S.log.length < max (S.mt.getD m.frm.toNat 0) m.index.toNat + 1 then ((S.has m.frm.toNat m.index.toNat).agree, [])
    else ((S.has m.frm.toNat m.index.toNat).agree, [(S.has m.frm.toNat m.index.toNat).agree.send m.frm.toNat])) from rfl)
  obtain ⟨S', ms, hq⟩ : ∃ (S' : Sv) (ms : List Mg), S.told m = (S', ms) := ⟨_, _, rfl⟩
  rw [hq] at HQ ⊢
  clear hq
  dsimp only
  obtain ⟨mk, frm, to, term, index, logTerm, ents, commit, mok⟩ := m
  dsimp only [mcell] at HQ hf hi ⊢
  subst hf
  subst hi
  rw [Int.toNat_natCast, Int.toNat_natCast] at HQ
  generalize ents.length = n at *
  have HBX : Hid (Below w.heap.size w (w.alloc (.cells #[.int .u8 (mk : Nat), .int .i64 (k : Nat), .int .i64 to, .int .i64 term, .int .i64 (i : Nat), .int .i64 logTerm, .slice E n c, .int .i64 commit, .bool mok] 34)) ∧ Blk (w.alloc (.cells #[.int .u8 (mk : Nat), .int .i64 (k : Nat), .int .i64 to, .int .i64 term, .int .i64 (i : Nat), .int .i64 logTerm, .slice E n c, .int .i64 commit, .bool mok] 34)) w.heap.size 34 #[.int .u8 (mk : Nat), .int .i64 (k : Nat), .int .i64 to, .int .i64 term, .int .i64 (i : Nat), .int .i64 logTerm, .slice E n c, .int .i64 commit, .bool mok]) := ⟨(Below.refl _ w).alloc (Nat.le_refl _) _, Blk.new _ _ _⟩
  have hsz : (w.alloc (.cells #[.int .u8 (mk : Nat), .int .i64 (k : Nat), .int .i64 to, .int .i64 term, .int .i64 (i : Nat), .int .i64 logTerm, .slice E n c, .int .i64 commit, .bool mok] 34)).heap.size = w.heap.size + 1 := by simp
  have HS := Lib.hid (hS.below HBX.out.1)
  have hbg : ¬ w.heap.size = g := by have := hS.lt; omega
  have k7 : k < 7 := by have := hok.n; omega
  have cn := HS.out.cn k7
  have cm := HS.out.cm k7
  have fn : ∀ j, (w.alloc (.cells #[.int .u8 (mk : Nat), .int .i64 (k : Nat), .int .i64 to, .int .i64 term, .int .i64 (i : Nat), .int .i64 logTerm, .slice E n c, .int .i64 commit, .bool mok] 34)).frozen? ⟨g, j, none⟩ = false := fun j => HS.out.top.frozen j
  obtain ⟨l, hll⟩ : ∃ l, l = S.log.length := ⟨_, rfl⟩
  have HL := Lib.hid (fun N => last_any ((w.alloc (.cells #[.int .u8 (mk : Nat), .int .i64 (k : Nat), .int .i64 to, .int .i64 term, .int .i64 (i : Nat), .int .i64 logTerm, .slice E n c, .int .i64 commit, .bool mok] 34)).drewN N) g l cs A (by rw [hll]; exact (HS.out.drewN N).c4))
  obtain ⟨mt, hmt⟩ : ∃ z, z = S.mt.getD k 0 := ⟨_, rfl⟩
  obtain ⟨nx, hnx⟩ : ∃ z, z = S.nx.getD k 0 := ⟨_, rfl⟩
  have HN := Lib.hid (And.intro hll (And.intro hmt (And.intro hnx (And.intro (hok.mt4 k) (And.intro (hok.nx4 k) hok.len)))))
  have hl : l ≤ 4096 := by rw [hll]; exact hok.len
  have hmt9 : mt ≤ 4096 := by rw [hmt]; exact hok.mt4 k
  have hnx9 : nx ≤ 4097 := by rw [hnx]; exact hok.nx4 k
  rw [← hmt] at cm
  rw [← hnx] at cn
  rw [← hll, ← hmt] at HQ
  clear hS hok hk hll hmt hnx
  go_enter Try.func46, Try.ntmps46
  go_wp2_with fail
  generalize w.alloc (.cells #[.int .u8 (mk : Nat), .int .i64 (k : Nat), .int .i64 to, .int .i64 term, .int .i64 (i : Nat), .int .i64 logTerm, .slice E n c, .int .i64 commit, .bool mok] 34) = w0 at *
  have x1 : w0.cell? ⟨w.heap.size, 1, none⟩ = some (.int .i64 (k : Nat)) := HBX.out.2.cell 1
  have x3 : w0.cell? ⟨w.heap.size, 3, none⟩ = some (.int .i64 term) := HBX.out.2.cell 3
  have x4 : w0.cell? ⟨w.heap.size, 4, none⟩ = some (.int .i64 (i : Nat)) := HBX.out.2.cell 4
  have x8 : w0.cell? ⟨w.heap.size, 8, none⟩ = some (.bool mok) := HBX.out.2.cell 8
  have c1 := HS.out.c1
  have c2 := HS.out.c2
  have c5 := HS.out.c5
  have ki : (k : Int) < 7 := by omega
  have ki0 : (0 : Int) ≤ (k : Int) := by omega
  by_cases hr : S.role = 2
  · have b1 : ((S.role : Int) != 2) = false := by rw [hr]; rfl
    by_cases ht : term = S.term
    · have b2 : (term != S.term) = false := by simp [ht]
      cases mok
      · have HQ1 : Hid ((S', ms) = (S.back k i, [(S.back k i).send k])) := Lib.hid (by rw [HQ.out, if_neg (fun h => h.elim (fun h => h hr) (fun h => h.elim (fun h => h ht) (fun h => by cases h.1))), if_pos rfl])
        clear HQ
        have HB0 : Hid ((S.back k i).log.length ≤ 4096 ∧ 1 ≤ (S.back k i).nx.getD k 0 ∧ (S.back k i).nx.getD k 0 ≤ (S.back k i).log.length + 1) := by
          have e1 : (S.back k i).nx.getD k 0 = max (S.mt.getD k 0 + 1) (min (S.nx.getD k 0) (i + 1)) := by
            show (S.nx.set k _).getD k 0 = _
            rw [List.getD_eq_getElem?_getD, List.getElem?_set_self (by rw [HK.out.1.nxl]; omega)]; rfl
          have e2 := HK.out.1.mtm hr k HK.out.2
          have e3 := HK.out.1.nxm hr k HK.out.2
          refine Lib.hid ⟨HK.out.1.len, ?_, ?_⟩
          · rw [e1]; omega
          · rw [e1]; show _ ≤ S.log.length + 1; omega
        by_cases h1 : (nx : Int) ≤ (i : Int) + 1
        · by_cases h2 : (nx : Int) ≤ (mt : Int) + 1
          · have HV : Hid (max (mt + 1) (min nx (i + 1)) = mt + 1) := Lib.hid (by omega)
            have HBK : Hid ((S.back k i).log.length ≤ 4096 ∧ 1 ≤ (S.back k i).nx.getD k 0 ∧ (S.back k i).nx.getD k 0 ≤ (S.back k i).log.length + 1) := HB0.out
            go_wp2_with fail
            go_quiet (fail)
            go_wp2_with fail
            go_region
            have hst := (HS.out.drewN (nq + 1)).set (S' := S.back k i) (9 + k) (.int .i64 ((mt + 1 : Nat) : Int)) rfl (by show (List.set _ _ _).length = 7; rw [List.length_set]; exact HS.out.nxl) HS.out.mtl (by rw [svCells_nx _ k7 HS.out.nxl, ← HV.out, HN.out.2.1, HN.out.2.2.1]; rfl)
            have hcv : ((mt + 1 : Nat) : Int) = (mt : Int) + 1 := by omega
            rw [hcv] at hst
            have HM3 := Lib.hid (And.intro hst.1 (((Chg.of_below HBX.out.1).drewN (nq + 1)).trans hst.2))
            generalize (w0.drewN (nq + 1)).setCell ⟨g, 9 + k, none⟩ (.int .i64 ((mt : Int) + 1)) = w3 at *
            go_wp2_with fail
            refine (send_any (S.back k i) k g A cs w3 HM3.out.1 HBK.out.1 k7 HBK.out.2.1 HBK.out.2.2).mono ?_
            rintro e w4 ⟨E2, c2, rfl, ho4, hb4⟩
            obtain ⟨m2, hm2⟩ : ∃ z, z = (S.back k i).send k := ⟨_, rfl⟩
            rw [← hm2] at ho4 HQ1 ⊢
            clear hm2
            have H4 := Lib.hid (And.intro ho4 hb4)
            clear ho4 hb4
            have HSZ : Hid (g < w4.heap.size) := Lib.hid (Nat.lt_of_lt_of_le HM3.out.1.lt H4.out.2.size)
            obtain ⟨p0, p1, p2, p3, p4, p5, pe, p7, p8⟩ := m2
            dsimp only [mcell] at H4 ⊢
            obtain ⟨ne, hne⟩ : ∃ z, z = pe.length := ⟨_, rfl⟩
            have HNE := Lib.hid hne
            rw [← hne] at H4 ⊢
            clear hne
            go_wp2_with fail
            go_ret
            have h := HQ1.out
            injection h with h1 h2
            rw [h1, h2]
            have ho5 := H4.out.1
            rw [HNE.out] at ho5 ⊢
            exact OutS.sent (m := ⟨p0, p1, p2, p3, p4, p5, pe, p7, p8⟩) ⟨A, cs, HM3.out.1, HM3.out.2.mono (fun b hb => .inl hb), fun a ha => .inl ⟨a, ha, rfl⟩⟩ ho5 H4.out.2
          · have h2' : decide ((nx : Int) ≤ (mt : Int) + 1) = false := decide_eq_false h2
            have HV : Hid (max (mt + 1) (min nx (i + 1)) = nx) := Lib.hid (by omega)
            have HBK : Hid ((S.back k i).log.length ≤ 4096 ∧ 1 ≤ (S.back k i).nx.getD k 0 ∧ (S.back k i).nx.getD k 0 ≤ (S.back k i).log.length + 1) := HB0.out
            go_wp2_with fail
            go_quiet (fail)
            go_wp2_with fail
            go_region
            have hst := (HS.out.drewN (nq + 1)).set (S' := S.back k i) (9 + k) (.int .i64 ((nx : Nat) : Int)) rfl (by show (List.set _ _ _).length = 7; rw [List.length_set]; exact HS.out.nxl) HS.out.mtl (by rw [svCells_nx _ k7 HS.out.nxl, ← HV.out, HN.out.2.1, HN.out.2.2.1]; rfl)
            have hcv : ((nx : Nat) : Int) = (nx : Int) := by omega
            rw [hcv] at hst
            have HM3 := Lib.hid (And.intro hst.1 (((Chg.of_below HBX.out.1).drewN (nq + 1)).trans hst.2))
            generalize (w0.drewN (nq + 1)).setCell ⟨g, 9 + k, none⟩ (.int .i64 ((nx : Int))) = w3 at *
            go_wp2_with fail
            refine (send_any (S.back k i) k g A cs w3 HM3.out.1 HBK.out.1 k7 HBK.out.2.1 HBK.out.2.2).mono ?_
            rintro e w4 ⟨E2, c2, rfl, ho4, hb4⟩
            obtain ⟨m2, hm2⟩ : ∃ z, z = (S.back k i).send k := ⟨_, rfl⟩
            rw [← hm2] at ho4 HQ1 ⊢
            clear hm2
            have H4 := Lib.hid (And.intro ho4 hb4)
            clear ho4 hb4
            have HSZ : Hid (g < w4.heap.size) := Lib.hid (Nat.lt_of_lt_of_le HM3.out.1.lt H4.out.2.size)
            obtain ⟨p0, p1, p2, p3, p4, p5, pe, p7, p8⟩ := m2
            dsimp only [mcell] at H4 ⊢
            obtain ⟨ne, hne⟩ : ∃ z, z = pe.length := ⟨_, rfl⟩
            have HNE := Lib.hid hne
            rw [← hne] at H4 ⊢
            clear hne
            go_wp2_with fail
            go_ret
            have h := HQ1.out
            injection h with h1 h2
            rw [h1, h2]
            have ho5 := H4.out.1
            rw [HNE.out] at ho5 ⊢
            exact OutS.sent (m := ⟨p0, p1, p2, p3, p4, p5, pe, p7, p8⟩) ⟨A, cs, HM3.out.1, HM3.out.2.mono (fun b hb => .inl hb), fun a ha => .inl ⟨a, ha, rfl⟩⟩ ho5 H4.out.2
        · have h1' : decide ((nx : Int) ≤ (i : Int) + 1) = false := decide_eq_false h1
          by_cases h2 : (i : Int) + 1 ≤ (mt : Int) + 1
          · have HV : Hid (max (mt + 1) (min nx (i + 1)) = mt + 1) := Lib.hid (by omega)
            have HBK : Hid ((S.back k i).log.length ≤ 4096 ∧ 1 ≤ (S.back k i).nx.getD k 0 ∧ (S.back k i).nx.getD k 0 ≤ (S.back k i).log.length + 1) := HB0.out
            go_wp2_with fail
            go_quiet (fail)
            go_wp2_with fail
            go_region
            have hst := (HS.out.drewN (nq + 1)).set (S' := S.back k i) (9 + k) (.int .i64 ((mt + 1 : Nat) : Int)) rfl (by show (List.set _ _ _).length = 7; rw [List.length_set]; exact HS.out.nxl) HS.out.mtl (by rw [svCells_nx _ k7 HS.out.nxl, ← HV.out, HN.out.2.1, HN.out.2.2.1]; rfl)
            have hcv : ((mt + 1 : Nat) : Int) = (mt : Int) + 1 := by omega
            rw [hcv] at hst
            have HM3 := Lib.hid (And.intro hst.1 (((Chg.of_below HBX.out.1).drewN (nq + 1)).trans hst.2))
            generalize (w0.drewN (nq + 1)).setCell ⟨g, 9 + k, none⟩ (.int .i64 ((mt : Int) + 1)) = w3 at *
            go_wp2_with fail
            refine (send_any (S.back k i) k g A cs w3 HM3.out.1 HBK.out.1 k7 HBK.out.2.1 HBK.out.2.2).mono ?_
            rintro e w4 ⟨E2, c2, rfl, ho4, hb4⟩
            obtain ⟨m2, hm2⟩ : ∃ z, z = (S.back k i).send k := ⟨_, rfl⟩
            rw [← hm2] at ho4 HQ1 ⊢
            clear hm2
            have H4 := Lib.hid (And.intro ho4 hb4)
            clear ho4 hb4
            have HSZ : Hid (g < w4.heap.size) := Lib.hid (Nat.lt_of_lt_of_le HM3.out.1.lt H4.out.2.size)
            obtain ⟨p0, p1, p2, p3, p4, p5, pe, p7, p8⟩ := m2
            dsimp only [mcell] at H4 ⊢
            obtain ⟨ne, hne⟩ : ∃ z, z = pe.length := ⟨_, rfl⟩
            have HNE := Lib.hid hne
            rw [← hne] at H4 ⊢
            clear hne
            go_wp2_with fail
            go_ret
            have h := HQ1.out
            injection h with h1 h2
            rw [h1, h2]
            have ho5 := H4.out.1
            rw [HNE.out] at ho5 ⊢
            exact OutS.sent (m := ⟨p0, p1, p2, p3, p4, p5, pe, p7, p8⟩) ⟨A, cs, HM3.out.1, HM3.out.2.mono (fun b hb => .inl hb), fun a ha => .inl ⟨a, ha, rfl⟩⟩ ho5 H4.out.2
          · have h2' : decide ((i : Int) + 1 ≤ (mt : Int) + 1) = false := decide_eq_false h2
            have HV : Hid (max (mt + 1) (min nx (i + 1)) = i + 1) := Lib.hid (by omega)
            have HBK : Hid ((S.back k i).log.length ≤ 4096 ∧ 1 ≤ (S.back k i).nx.getD k 0 ∧ (S.back k i).nx.getD k 0 ≤ (S.back k i).log.length + 1) := HB0.out
            go_wp2_with fail
            go_quiet (fail)
            go_wp2_with fail
            go_region
            have hst := (HS.out.drewN (nq + 1)).set (S' := S.back k i) (9 + k) (.int .i64 ((i + 1 : Nat) : Int)) rfl (by show (List.set _ _ _).length = 7; rw [List.length_set]; exact HS.out.nxl) HS.out.mtl (by rw [svCells_nx _ k7 HS.out.nxl, ← HV.out, HN.out.2.1, HN.out.2.2.1]; rfl)
            have hcv : ((i + 1 : Nat) : Int) = (i : Int) + 1 := by omega
            rw [hcv] at hst
            have HM3 := Lib.hid (And.intro hst.1 (((Chg.of_below HBX.out.1).drewN (nq + 1)).trans hst.2))
            generalize (w0.drewN (nq + 1)).setCell ⟨g, 9 + k, none⟩ (.int .i64 ((i : Int) + 1)) = w3 at *
            go_wp2_with fail
            refine (send_any (S.back k i) k g A cs w3 HM3.out.1 HBK.out.1 k7 HBK.out.2.1 HBK.out.2.2).mono ?_
            rintro e w4 ⟨E2, c2, rfl, ho4, hb4⟩
            obtain ⟨m2, hm2⟩ : ∃ z, z = (S.back k i).send k := ⟨_, rfl⟩
            rw [← hm2] at ho4 HQ1 ⊢
            clear hm2
            have H4 := Lib.hid (And.intro ho4 hb4)
            clear ho4 hb4
            have HSZ : Hid (g < w4.heap.size) := Lib.hid (Nat.lt_of_lt_of_le HM3.out.1.lt H4.out.2.size)
            obtain ⟨p0, p1, p2, p3, p4, p5, pe, p7, p8⟩ := m2
            dsimp only [mcell] at H4 ⊢
            obtain ⟨ne, hne⟩ : ∃ z, z = pe.length := ⟨_, rfl⟩
            have HNE := Lib.hid hne
            rw [← hne] at H4 ⊢
            clear hne
            go_wp2_with fail
            go_ret
            have h := HQ1.out
            injection h with h1 h2
            rw [h1, h2]
            have ho5 := H4.out.1
            rw [HNE.out] at ho5 ⊢
            exact OutS.sent (m := ⟨p0, p1, p2, p3, p4, p5, pe, p7, p8⟩) ⟨A, cs, HM3.out.1, HM3.out.2.mono (fun b hb => .inl hb), fun a ha => .inl ⟨a, ha, rfl⟩⟩ ho5 H4.out.2
      · by_cases hil : l < i
        · have d1 : decide ((l : Int) < (i : Int)) = true := decide_eq_true (by omega)
          have HQ1 : Hid ((S', ms) = (S, [])) := Lib.hid (by rw [HQ.out, if_pos (.inr (.inr ⟨rfl, by omega⟩))])
          clear HQ
          go_wp2_with fail
          go_quiet (first | fail | refine Calls.quiet_of_same (HL.out _))
          go_wp2_with fail
          go_ret
          have h := HQ1.out
          injection h with h1 h2
          rw [h1, h2]
          exact OutS.nil ⟨A, cs, HS.out.drewN _, .of_below (below_drewN HBX.out.1 _), fun a ha => .inl ⟨a, ha, rfl⟩⟩
        · have d1 : decide ((l : Int) < (i : Int)) = false := decide_eq_false (by omega)
          have HQ1 : Hid ((S', ms) = if l < max mt i + 1 then ((S.has k i).agree, []) else ((S.has k i).agree, [(S.has k i).agree.send k])) := Lib.hid (by rw [HQ.out, if_neg (fun h => h.elim (fun h => h hr) (fun h => h.elim (fun h => h ht) (fun h => by omega))), if_neg (by decide)])
          clear HQ
          by_cases h1 : (i : Int) ≤ (mt : Int)
          · have HV : Hid (max mt i = mt) := Lib.hid (by omega)
            have hvl : mt ≤ l := by have := HK.out.1.mtm hr k HK.out.2; rw [← HN.out.2.1, ← HN.out.1] at this; omega
            go_wp2_with fail
            go_quiet (refine Calls.quiet_of_same (HL.out _))
            go_wp2_with fail
            go_region
            have hst := (HS.out.drewN (nq + 1)).set (S' := { S with mt := S.mt.set k mt }) (16 + k) (.int .i64 ((mt : Nat) : Int)) rfl HS.out.nxl (by show (List.set _ _ _).length = 7; rw [List.length_set]; exact HS.out.mtl) (svCells_mt _ k7 HS.out.nxl)
            have HM3 := Lib.hid (And.intro hst.1 (((Chg.of_below HBX.out.1).drewN (nq + 1)).trans hst.2))
            generalize (w0.drewN (nq + 1)).setCell ⟨g, 16 + k, none⟩ (.int .i64 (mt : Nat)) = w3 at *
            have j16 : w3.cell? ⟨g, 16 + k, none⟩ = some (.int .i64 ((mt : Nat) : Int)) := by
              rw [HM3.out.1.cm k7]; show some (Value.int .i64 (((S.mt.set k mt).getD k 0 : Nat) : Int)) = _
              rw [List.getD_eq_getElem?_getD, List.getElem?_set_self (by rw [HK.out.1.mtl]; omega)]; rfl
            have j9 := HM3.out.1.cn k7
            have f9 : w3.frozen? ⟨g, 9 + k, none⟩ = false := HM3.out.1.top.frozen _
            clear hst cn cm fn c1 c2 c5 x1 x3 x4 x8
            go_wp2_with fail
            go_region
            have HH : Hid (S.has k i = { S with mt := S.mt.set k mt, nx := S.nx.set k (mt + 1) }) := by
              have hv' : max (S.mt.getD k 0) i = mt := by rw [← HN.out.2.1]; exact HV.out
              unfold Sv.has; rw [hv']; exact Lib.hid rfl
            have hst := HM3.out.1.set (S' := S.has k i) (9 + k) (.int .i64 ((mt + 1 : Nat) : Int)) (by rw [HH.out]) (by rw [HH.out]; show (List.set _ _ _).length = 7; rw [List.length_set]; exact HM3.out.1.nxl) (by rw [HH.out]; exact HM3.out.1.mtl) (by rw [svCells_nx _ k7 HM3.out.1.nxl, HH.out])
            rw [show ((mt + 1 : Nat) : Int) = (mt : Int) + 1 by omega] at hst
            have HM4 := Lib.hid (And.intro hst.1.drew ((HM3.out.2.trans hst.2).drewN 1))
            change Hid (_ ∧ Chg _ _ (w3.setCell ⟨g, 9 + k, none⟩ (.int .i64 ((mt : Int) + 1))).drew) at HM4
            generalize (w3.setCell ⟨g, 9 + k, none⟩ (.int .i64 ((mt : Int) + 1))).drew = w4 at *
            have HNX : Hid ((S.has k i).agree.nx.getD k 0 = mt + 1 ∧ (S.has k i).agree.log.length = l) := by
              refine Lib.hid ⟨?_, HN.out.1.symm⟩
              show (S.has k i).nx.getD k 0 = _
              rw [HH.out]
              show (S.nx.set k _).getD k 0 = _
              rw [List.getD_eq_getElem?_getD, List.getElem?_set_self (by rw [HK.out.1.nxl]; omega)]; rfl
            rw [HV.out] at HQ1
            clear hst j9 f9 j16
            go_wp2_with fail
            refine (agree_any (S.has k i) g A cs w4 HM4.out.1 HK.out.1.len HK.out.1.n (Nat.le_trans HK.out.1.com HK.out.1.len)).mono ?_
            rintro e w5 ⟨rfl, hk5⟩
            obtain ⟨A5, c5, hm5, hc5, ht5⟩ := KeepsM.trans (HM4.out.2.mono (fun b hb => .inl hb)) (fun a ha => .inl ⟨a, ha, rfl⟩) hk5
            have H5 := Lib.hid (And.intro hm5 (And.intro hc5 ht5))
            have j9 : w5.cell? ⟨g, 9 + k, none⟩ = some (.int .i64 ((mt + 1 : Nat) : Int)) := by rw [hm5.cn k7, HNX.out.1]
            rw [show ((mt + 1 : Nat) : Int) = (mt : Int) + 1 by omega] at j9
            have HL5 := Lib.hid (fun N => last_any (w5.drewN N) g l c5 A5 (by have h := (hm5.drewN N).c4; rw [HNX.out.2] at h; exact h))
            clear hm5 hc5 ht5 hk5 HL
            by_cases hlv : l < mt + 1
            · have d5 : decide ((l : Int) < (mt : Int) + 1) = true := decide_eq_true (by omega)
              have HQ2 : Hid ((S', ms) = ((S.has k i).agree, [])) := Lib.hid (by rw [HQ1.out, if_pos hlv])
              clear HQ1
              go_wp2_with fail
              go_quiet (refine Calls.quiet_of_same (HL5.out _))
              go_wp2_with fail
              go_ret
              have h := HQ2.out
              injection h with h1 h2
              rw [h1, h2]
              exact OutS.nil ⟨A5, c5, H5.out.1.drewN _, H5.out.2.1.drewN _, H5.out.2.2⟩
            · have d5 : decide ((l : Int) < (mt : Int) + 1) = false := decide_eq_false (by omega)
              have HQ2 : Hid ((S', ms) = ((S.has k i).agree, [(S.has k i).agree.send k])) := Lib.hid (by rw [HQ1.out, if_neg hlv])
              clear HQ1
              have HBK : Hid ((S.has k i).agree.log.length ≤ 4096 ∧ 1 ≤ (S.has k i).agree.nx.getD k 0 ∧ (S.has k i).agree.nx.getD k 0 ≤ (S.has k i).agree.log.length + 1) := Lib.hid (by rw [HNX.out.1, HNX.out.2]; omega)
              have HM5 : Hid (∀ N, SvM (w5.drewN N) g (S.has k i).agree A5 c5) := Lib.hid (fun N => H5.out.1.drewN N)
              go_wp2_with fail
              go_quiet (refine Calls.quiet_of_same (HL5.out _))
              go_wp2_with fail
              refine (send_any (S.has k i).agree k g A5 c5 _ (HM5.out _) HBK.out.1 k7 HBK.out.2.1 HBK.out.2.2).mono ?_
              rintro e w4 ⟨E2, c2, rfl, ho4, hb4⟩
              obtain ⟨m2, hm2⟩ : ∃ z, z = (S.has k i).agree.send k := ⟨_, rfl⟩
              rw [← hm2] at ho4 HQ2 ⊢
              clear hm2
              have H4 := Lib.hid (And.intro ho4 hb4)
              clear ho4 hb4
              have HSZ : Hid (g < w4.heap.size) := Lib.hid (Nat.lt_of_lt_of_le (HM5.out _).lt H4.out.2.size)
              obtain ⟨p0, p1, p2, p3, p4, p5, pe, p7, p8⟩ := m2
              dsimp only [mcell] at H4 ⊢
              obtain ⟨ne, hne⟩ : ∃ z, z = pe.length := ⟨_, rfl⟩
              have HNE := Lib.hid hne
              rw [← hne] at H4 ⊢
              clear hne
              go_wp2_with fail
              go_ret
              have h := HQ2.out
              injection h with h1 h2
              rw [h1, h2]
              have ho5 := H4.out.1
              rw [HNE.out] at ho5 ⊢
              exact OutS.sent (m := ⟨p0, p1, p2, p3, p4, p5, pe, p7, p8⟩) ⟨A5, c5, H5.out.1.drewN _, H5.out.2.1.drewN _, H5.out.2.2⟩ ho5 H4.out.2
          · have h1' : decide ((i : Int) ≤ (mt : Int)) = false := decide_eq_false h1
            have HV : Hid (max mt i = i) := Lib.hid (by omega)
            have hvl : i ≤ l := by have := HK.out.1.mtm hr k HK.out.2; rw [← HN.out.2.1, ← HN.out.1] at this; omega
            go_wp2_with fail
            go_quiet (refine Calls.quiet_of_same (HL.out _))
            go_wp2_with fail
            go_region
            have hst := (HS.out.drewN (nq + 1)).set (S' := { S with mt := S.mt.set k i }) (16 + k) (.int .i64 ((i : Nat) : Int)) rfl HS.out.nxl (by show (List.set _ _ _).length = 7; rw [List.length_set]; exact HS.out.mtl) (svCells_mt _ k7 HS.out.nxl)
            have HM3 := Lib.hid (And.intro hst.1 (((Chg.of_below HBX.out.1).drewN (nq + 1)).trans hst.2))
            generalize (w0.drewN (nq + 1)).setCell ⟨g, 16 + k, none⟩ (.int .i64 (i : Nat)) = w3 at *
            have j16 : w3.cell? ⟨g, 16 + k, none⟩ = some (.int .i64 ((i : Nat) : Int)) := by
              rw [HM3.out.1.cm k7]; show some (Value.int .i64 (((S.mt.set k i).getD k 0 : Nat) : Int)) = _
              rw [List.getD_eq_getElem?_getD, List.getElem?_set_self (by rw [HK.out.1.mtl]; omega)]; rfl
            have j9 := HM3.out.1.cn k7
            have f9 : w3.frozen? ⟨g, 9 + k, none⟩ = false := HM3.out.1.top.frozen _
            clear hst cn cm fn c1 c2 c5 x1 x3 x4 x8
            go_wp2_with fail
            go_region
            have HH : Hid (S.has k i = { S with mt := S.mt.set k i, nx := S.nx.set k (i + 1) }) := by
              have hv' : max (S.mt.getD k 0) i = i := by rw [← HN.out.2.1]; exact HV.out
              unfold Sv.has; rw [hv']; exact Lib.hid rfl
            have hst := HM3.out.1.set (S' := S.has k i) (9 + k) (.int .i64 ((i + 1 : Nat) : Int)) (by rw [HH.out]) (by rw [HH.out]; show (List.set _ _ _).length = 7; rw [List.length_set]; exact HM3.out.1.nxl) (by rw [HH.out]; exact HM3.out.1.mtl) (by rw [svCells_nx _ k7 HM3.out.1.nxl, HH.out])
            rw [show ((i + 1 : Nat) : Int) = (i : Int) + 1 by omega] at hst
            have HM4 := Lib.hid (And.intro hst.1.drew ((HM3.out.2.trans hst.2).drewN 1))
            change Hid (_ ∧ Chg _ _ (w3.setCell ⟨g, 9 + k, none⟩ (.int .i64 ((i : Int) + 1))).drew) at HM4
            generalize (w3.setCell ⟨g, 9 + k, none⟩ (.int .i64 ((i : Int) + 1))).drew = w4 at *
            have HNX : Hid ((S.has k i).agree.nx.getD k 0 = i + 1 ∧ (S.has k i).agree.log.length = l) := by
              refine Lib.hid ⟨?_, HN.out.1.symm⟩
              show (S.has k i).nx.getD k 0 = _
              rw [HH.out]
              show (S.nx.set k _).getD k 0 = _
              rw [List.getD_eq_getElem?_getD, List.getElem?_set_self (by rw [HK.out.1.nxl]; omega)]; rfl
            rw [HV.out] at HQ1
            clear hst j9 f9 j16
            go_wp2_with fail
            refine (agree_any (S.has k i) g A cs w4 HM4.out.1 HK.out.1.len HK.out.1.n (Nat.le_trans HK.out.1.com HK.out.1.len)).mono ?_
            rintro e w5 ⟨rfl, hk5⟩
            obtain ⟨A5, c5, hm5, hc5, ht5⟩ := KeepsM.trans (HM4.out.2.mono (fun b hb => .inl hb)) (fun a ha => .inl ⟨a, ha, rfl⟩) hk5
            have H5 := Lib.hid (And.intro hm5 (And.intro hc5 ht5))
            have j9 : w5.cell? ⟨g, 9 + k, none⟩ = some (.int .i64 ((i + 1 : Nat) : Int)) := by rw [hm5.cn k7, HNX.out.1]
            rw [show ((i + 1 : Nat) : Int) = (i : Int) + 1 by omega] at j9
            have HL5 := Lib.hid (fun N => last_any (w5.drewN N) g l c5 A5 (by have h := (hm5.drewN N).c4; rw [HNX.out.2] at h; exact h))
            clear hm5 hc5 ht5 hk5 HL
            by_cases hlv : l < i + 1
            · have d5 : decide ((l : Int) < (i : Int) + 1) = true := decide_eq_true (by omega)
              have HQ2 : Hid ((S', ms) = ((S.has k i).agree, [])) := Lib.hid (by rw [HQ1.out, if_pos hlv])
              clear HQ1
              go_wp2_with fail
              go_quiet (refine Calls.quiet_of_same (HL5.out _))
              go_wp2_with fail
              go_ret
              have h := HQ2.out
              injection h with h1 h2
              rw [h1, h2]
              exact OutS.nil ⟨A5, c5, H5.out.1.drewN _, H5.out.2.1.drewN _, H5.out.2.2⟩
            · have d5 : decide ((l : Int) < (i : Int) + 1) = false := decide_eq_false (by omega)
              have HQ2 : Hid ((S', ms) = ((S.has k i).agree, [(S.has k i).agree.send k])) := Lib.hid (by rw [HQ1.out, if_neg hlv])
              clear HQ1
              have HBK : Hid ((S.has k i).agree.log.length ≤ 4096 ∧ 1 ≤ (S.has k i).agree.nx.getD k 0 ∧ (S.has k i).agree.nx.getD k 0 ≤ (S.has k i).agree.log.length + 1) := Lib.hid (by rw [HNX.out.1, HNX.out.2]; omega)
              have HM5 : Hid (∀ N, SvM (w5.drewN N) g (S.has k i).agree A5 c5) := Lib.hid (fun N => H5.out.1.drewN N)
              go_wp2_with fail
              go_quiet (refine Calls.quiet_of_same (HL5.out _))
              go_wp2_with fail
              refine (send_any (S.has k i).agree k g A5 c5 _ (HM5.out _) HBK.out.1 k7 HBK.out.2.1 HBK.out.2.2).mono ?_
              rintro e w4 ⟨E2, c2, rfl, ho4, hb4⟩
              obtain ⟨m2, hm2⟩ : ∃ z, z = (S.has k i).agree.send k := ⟨_, rfl⟩
              rw [← hm2] at ho4 HQ2 ⊢
              clear hm2
              have H4 := Lib.hid (And.intro ho4 hb4)
              clear ho4 hb4
              have HSZ : Hid (g < w4.heap.size) := Lib.hid (Nat.lt_of_lt_of_le (HM5.out _).lt H4.out.2.size)
              obtain ⟨p0, p1, p2, p3, p4, p5, pe, p7, p8⟩ := m2
              dsimp only [mcell] at H4 ⊢
              obtain ⟨ne, hne⟩ : ∃ z, z = pe.length := ⟨_, rfl⟩
              have HNE := Lib.hid hne
              rw [← hne] at H4 ⊢
              clear hne
              go_wp2_with fail
              go_ret
              have h := HQ2.out
              injection h with h1 h2
              rw [h1, h2]
              have ho5 := H4.out.1
              rw [HNE.out] at ho5 ⊢
              exact OutS.sent (m := ⟨p0, p1, p2, p3, p4, p5, pe, p7, p8⟩) ⟨A5, c5, H5.out.1.drewN _, H5.out.2.1.drewN _, H5.out.2.2⟩ ho5 H4.out.2
    · have b2 : (term != S.term) = true := by simp [ht]
      have HQ1 : Hid ((S', ms) = (S, [])) := Lib.hid (by rw [HQ.out, if_pos (.inr (.inl ht))])
      clear HQ
      go_wp2_with fail
      go_quiet (first | fail | refine Calls.quiet_of_same (HL.out _))
      go_wp2_with fail
      go_ret
      have h := HQ1.out
      injection h with h1 h2
      rw [h1, h2]
      exact OutS.nil ⟨A, cs, HS.out.drewN _, .of_below (below_drewN HBX.out.1 _), fun a ha => .inl ⟨a, ha, rfl⟩⟩
  · have b1 : ((S.role : Int) != 2) = true := by simp; omega
    have HQ1 : Hid ((S', ms) = (S, [])) := Lib.hid (by rw [HQ.out, if_pos (.inl hr)])
    clear HQ
    go_wp2_with fail
    go_quiet (first | fail | refine Calls.quiet_of_same (HL.out _))
    go_wp2_with fail
    go_ret
    have h := HQ1.out
    injection h with h1 h2
    rw [h1, h2]
    exact OutS.nil ⟨A, cs, HS.out.drewN _, .of_below (below_drewN HBX.out.1 _), fun a ha => .inl ⟨a, ha, rfl⟩⟩
end Go.Proofs.Ytjodglepaeomiaa
