/- Contract of appended. -/
import Derived.Test.YtjodglepaeomiaaApl
namespace Go.Proofs.Ytjodglepaeomiaa
open Go.RowKit

theorem SvM.renew {w w2 : World} {g c c' : Nat} {S : Sv} {A A' : Option Addr} {L : List Ent} (h : SvM w g S A c) (hb : Below w.heap.size w w2) (ho : w2.ownsRow w.heap.size 39 2 (.slice A' L.length c') L.length (rowOf ecell L)) :
    KeepsM w g A { S with log := L } (w2.setCell ⟨g, 4, none⟩ (.slice A' L.length c')) := by
  refine ⟨A', c', ⟨?_, ?_, h.nxl, h.mtl⟩, (Chg.of_below hb).setCell (p := ⟨g, 4, none⟩) (.inl rfl) _, fun a ha => .inr (World.ownsRow.lt ho _ (own_block ho a ha)).1⟩
  · have h2 := (h.top.below hb h.lt).set_ 4 (.slice A' L.length c')
    rw [List.setIfInBounds_toArray] at h2
    exact h2
  · refine own_chg (own_at ho (fun _ _ => Nat.zero_le _)) ((Chg.refl (fun b => b = g) w2).setCell (p := ⟨g, 4, none⟩) rfl _) (fun g' hg' he => ?_)
    have h1 := (World.ownsRow.lt ho g' hg').1
    have h2 := h.lt
    omega
theorem differs_le (log : List Ent) : ∀ (r : List Ent) (k : Nat), differs log r k ≤ r.length
  | [], _ => Nat.le_refl _
  | x :: r, k => by
    have := differs_le log r (k + 1)
    rw [differs, List.length_cons]
    split <;> omega
theorem differs_log (log : List Ent) : ∀ (r : List Ent) (k : Nat), k ≤ log.length → k + differs log r k ≤ log.length
  | [], k, h => h
  | x :: r, k, h => by
    rw [differs]
    split
    · omega
    · have h2 := differs_log log r (k + 1) (by omega)
      omega
set_option maxRecDepth 100000 in
set_option maxHeartbeats 16000000 in
theorem appended_any (S : Sv) (m : Mg) (g i q : Nat) (A E : Option Addr) (cs c : Nat) (w : World) (hS : SvM w g S A cs) (hok : S.Ok) (hrd : RdE w E m.ents) (hE : ∀ a, E = some a → m.ents ≠ [] → a.block ≠ g) (hnc : m.ents.length ≤ c) (hE0 : E = none → c = 0)
    (hi : m.index = (i : Nat)) (hq : m.commit = (q : Nat)) (hi9 : i + m.ents.length ≤ 4096) :
    Calls Try.prog 45 #[.pointer (some ⟨g, 0, none⟩), .agg (mcell E c m).toArray] w (OutS w g A (S.appended m).1 (S.appended m).2) := by
  have HK := Lib.hid hok
  have HQ := Lib.hid (show S.appended m = (if m.term < S.term then (S, [S.ans m 4 0 false]) else if S.role = 2 then (S, [])
  else if (S.log.length : Int) < m.index ∨ termAt S.log m.index.toNat ≠ m.logTerm then (S.foll m.frm, [S.ans m 4 (min (S.log.length : Int) (m.index - 1)) false])
  else if differs S.log m.ents m.index.toNat < m.ents.length then
    (if m.index.toNat + differs S.log m.ents m.index.toNat < S.commit then (S.foll m.frm, [])
    else ({ S.foll m.frm with log := S.log.take (m.index.toNat + differs S.log m.ents m.index.toNat) ++ m.ents.drop (differs S.log m.ents m.index.toNat), commit := max S.commit (min m.commit.toNat (m.index.toNat + m.ents.length)) },
      [S.ans m 4 ((m.index.toNat + m.ents.length : Nat) : Int) true]))
  else ({ S.foll m.frm with commit := max S.commit (min m.commit.toNat (m.index.toNat + m.ents.length)) }, [S.ans m 4 ((m.index.toNat + m.ents.length : Nat) : Int) true])) from rfl)
  obtain ⟨S', ms, hq'⟩ : ∃ (S' : Sv) (ms : List Mg), S.appended m = (S', ms) := ⟨_, _, rfl⟩
  rw [hq'] at HQ ⊢
  clear hq'
  dsimp only
  obtain ⟨mk, frm, to, term, index, logTerm, ents, commit, mok⟩ := m
  dsimp only [mcell] at HQ hi hq hrd hE hnc hi9 ⊢
  subst hi
  subst hq
  rw [Int.toNat_natCast, Int.toNat_natCast] at HQ
  have HDF := Lib.hid (fun (S1 : Sv) W (h : SvM W g S1 A cs) (hr : RdE W E ents) (hl : S1.log.length ≤ 4096) => differs_any S1 ⟨mk, frm, to, term, (i : Nat), logTerm, ents, (q : Nat), mok⟩ g A E cs c i W h hr rfl hl (by omega) (by show ents.length ≤ 4096; omega))
  have HAN := Lib.hid (fun (S1 : Sv) (A1 : Option Addr) c1 W (h : SvM W g S1 A1 c1) (ix : Int) ok => answer_any S1 ⟨mk, frm, to, term, (i : Nat), logTerm, ents, (q : Nat), mok⟩ g A1 E c1 c 4 ix ok W h)
  dsimp only [mcell] at HDF HAN
  obtain ⟨n, hn⟩ : ∃ z, z = ents.length := ⟨_, rfl⟩
  have HNN := Lib.hid hn
  rw [← hn] at HQ HDF HAN hnc hi9 ⊢
  have HE := Lib.hid (And.intro hE hE0)
  clear hn hE hE0
  have HBX : Hid (Below w.heap.size w (w.alloc (.cells #[.int .u8 (mk : Nat), .int .i64 frm, .int .i64 to, .int .i64 term, .int .i64 (i : Nat), .int .i64 logTerm, .slice E n c, .int .i64 (q : Nat), .bool mok] 34)) ∧ Blk (w.alloc (.cells #[.int .u8 (mk : Nat), .int .i64 frm, .int .i64 to, .int .i64 term, .int .i64 (i : Nat), .int .i64 logTerm, .slice E n c, .int .i64 (q : Nat), .bool mok] 34)) w.heap.size 34 #[.int .u8 (mk : Nat), .int .i64 frm, .int .i64 to, .int .i64 term, .int .i64 (i : Nat), .int .i64 logTerm, .slice E n c, .int .i64 (q : Nat), .bool mok]) := ⟨(Below.refl _ w).alloc (Nat.le_refl _) _, Blk.new _ _ _⟩
  have hsz : (w.alloc (.cells #[.int .u8 (mk : Nat), .int .i64 frm, .int .i64 to, .int .i64 term, .int .i64 (i : Nat), .int .i64 logTerm, .slice E n c, .int .i64 (q : Nat), .bool mok] 34)).heap.size = w.heap.size + 1 := by simp
  have HS := Lib.hid (hS.below HBX.out.1)
  have hbg : ¬ w.heap.size = g := by have := hS.lt; omega
  have HRD := Lib.hid (hrd.below HBX.out.1)
  obtain ⟨l, hll⟩ : ∃ l, l = S.log.length := ⟨_, rfl⟩
  obtain ⟨cm, hcm⟩ : ∃ l, l = S.commit := ⟨_, rfl⟩
  have hl : l ≤ 4096 := by rw [hll]; exact hok.len
  have HN := Lib.hid (And.intro hll hcm)
  have hcml : cm ≤ l := by rw [hll, hcm]; exact hok.com
  clear hS hok hrd hll hcm
  go_enter Try.func45, Try.ntmps45
  go_wp2_with fail
  generalize w.alloc (.cells #[.int .u8 (mk : Nat), .int .i64 frm, .int .i64 to, .int .i64 term, .int .i64 (i : Nat), .int .i64 logTerm, .slice E n c, .int .i64 (q : Nat), .bool mok] 34) = w0 at *
  have x1 : w0.cell? ⟨w.heap.size, 1, none⟩ = some (.int .i64 frm) := HBX.out.2.cell 1
  have x3 : w0.cell? ⟨w.heap.size, 3, none⟩ = some (.int .i64 term) := HBX.out.2.cell 3
  have x4 : w0.cell? ⟨w.heap.size, 4, none⟩ = some (.int .i64 (i : Nat)) := HBX.out.2.cell 4
  have x5 : w0.cell? ⟨w.heap.size, 5, none⟩ = some (.int .i64 logTerm) := HBX.out.2.cell 5
  have x6 : w0.cell? ⟨w.heap.size, 6, none⟩ = some (.slice E n c) := HBX.out.2.cell 6
  have x7 : w0.cell? ⟨w.heap.size, 7, none⟩ = some (.int .i64 (q : Nat)) := HBX.out.2.cell 7
  have c2 := HS.out.c2
  have c5 := HS.out.c5
  by_cases ht : term < S.term
  · have d1 : decide (term < S.term) = true := decide_eq_true ht
    have HQ1 : Hid ((S', ms) = (S, [S.ans ⟨mk, frm, to, term, (i : Nat), logTerm, ents, (q : Nat), mok⟩ 4 0 false])) := Lib.hid (by rw [HQ.out, if_pos ht])
    clear HQ
    go_quiet (fail)
    go_wp2_with (first | (refine wpList_load_row rfl 34 _ rfl w.heap.size rfl 34 #[.int .u8 (mk : Nat), .int .i64 frm, .int .i64 to, .int .i64 term, .int .i64 (i : Nat), .int .i64 logTerm, .slice E n c, .int .i64 (q : Nat), .bool mok] (0, 0) _ (HBX.out.2.drewN _) Try.underlying34 rfl (by kernel_rfl) ?_) | fail)
    refine (HAN.out S A cs _ (HS.out.drewN _) (0) false).mono ?_
    rintro e w9 ⟨⟨D, d, rfl, hms⟩, hb9⟩
    have HO : Hid (OutS w g A S [S.ans ⟨mk, frm, to, term, (i : Nat), logTerm, ents, (q : Nat), mok⟩ 4 (0) false] (.returned (.slice D 1 d)) w9) := OutS.ans ⟨A, cs, HS.out.drewN _, .of_below (below_drewN HBX.out.1 _), fun a ha => .inl ⟨a, ha, rfl⟩⟩ hms hb9
    clear hms hb9
    go_wp2_with fail
    go_ret
    have h := HQ1.out
    injection h with h1 h2
    rw [h1, h2]
    exact HO.out
  · have d1 : decide (term < S.term) = false := decide_eq_false ht
    by_cases hr : S.role = 2
    · have b1 : ((S.role : Int) == 2) = true := by rw [hr]; rfl
      have HQ1 : Hid ((S', ms) = (S, [])) := Lib.hid (by rw [HQ.out, if_neg ht, if_pos hr])
      clear HQ
      go_quiet (fail)
      go_wp2_with fail
      go_ret
      have h := HQ1.out
      injection h with h1 h2
      rw [h1, h2]
      exact OutS.nil ⟨A, cs, HS.out.drewN _, .of_below (below_drewN HBX.out.1 _), fun a ha => .inl ⟨a, ha, rfl⟩⟩
    · have b1 : ((S.role : Int) == 2) = false := by simp; omega
      have hNT : Hid (S.term ≤ term) := Lib.hid (by omega)
      have hNR := Lib.hid hr
      have f5 : ∀ N, (w0.drewN N).frozen? ⟨g, 5, none⟩ = false := fun N => (HS.out.drewN N).top.frozen 5
      have f6 : ∀ N, (w0.drewN N).frozen? ⟨g, 6, none⟩ = false := fun N => (HS.out.drewN N).top.frozen 6
      have c6 := HS.out.c6
      go_quiet (fail)
      go_wp2_with fail
      go_region
      have s5 := (HS.out.drewN (nq + 1)).set (S' := { S with role := 0 }) 5 (.int .u8 0) rfl HS.out.nxl HS.out.mtl rfl
      have s6 := s5.1.set (S' := S.foll frm) 6 (.int .i64 frm) rfl HS.out.nxl HS.out.mtl rfl
      have hch := ((Chg.refl (fun b => b = g) w0).drewN (nq + 1)).trans (s5.2.trans s6.2)
      have hM : SvM (((w0.drewN (nq + 1)).setCell ⟨g, 5, none⟩ (.int .u8 0)).setCell ⟨g, 6, none⟩ (.int .i64 frm)) g (S.foll frm) A cs ∧ Chg (SvT g A) w (((w0.drewN (nq + 1)).setCell ⟨g, 5, none⟩ (.int .u8 0)).setCell ⟨g, 6, none⟩ (.int .i64 frm)) ∧ Blk (((w0.drewN (nq + 1)).setCell ⟨g, 5, none⟩ (.int .u8 0)).setCell ⟨g, 6, none⟩ (.int .i64 frm)) w.heap.size 34 #[.int .u8 (mk : Nat), .int .i64 frm, .int .i64 to, .int .i64 term, .int .i64 (i : Nat), .int .i64 logTerm, .slice E n c, .int .i64 (q : Nat), .bool mok] ∧ RdE (((w0.drewN (nq + 1)).setCell ⟨g, 5, none⟩ (.int .u8 0)).setCell ⟨g, 6, none⟩ (.int .i64 frm)) E ents :=
        ⟨s6.1, (Chg.of_below HBX.out.1).trans (hch.mono (fun b hb => .inl hb)), HBX.out.2.chg hch (fun h => hbg h), HRD.out.chg hch (fun a ha hne he => HE.out.1 a ha hne he)⟩
      have HM := Lib.hid hM
      clear hM s5 s6 hch c2 c5 c6 f5 f6 b1 d1 x1 x3 x4 x5 x6 x7 hr ht
      generalize ((w0.drewN (nq + 1)).setCell ⟨g, 5, none⟩ (.int .u8 0)).setCell ⟨g, 6, none⟩ (.int .i64 frm) = w3 at *
      have HX : Hid (∀ W, Below w3.heap.size w3 W → SvM W g (S.foll frm) A cs ∧ Blk W w.heap.size 34 #[.int .u8 (mk : Nat), .int .i64 frm, .int .i64 to, .int .i64 term, .int .i64 (i : Nat), .int .i64 logTerm, .slice E n c, .int .i64 (q : Nat), .bool mok] ∧ RdE W E ents) := Lib.hid (fun W hW => ⟨HM.out.1.below hW, HM.out.2.2.1.below hW HM.out.2.2.1.lt, HM.out.2.2.2.below hW⟩)
      have HXC : Hid (∀ W, Below w3.heap.size w3 W → W.cell? ⟨w.heap.size, 4, none⟩ = some (.int .i64 (i : Nat)) ∧ W.cell? ⟨w.heap.size, 6, none⟩ = some (.slice E n c) ∧ W.heap[w.heap.size]? = some (.cells #[.int .u8 (mk : Nat), .int .i64 frm, .int .i64 to, .int .i64 term, .int .i64 (i : Nat), .int .i64 logTerm, .slice E n c, .int .i64 (q : Nat), .bool mok] 34 (0, 0))) := Lib.hid (fun W hW => ⟨(HX.out W hW).2.1.cell 4, (HX.out W hW).2.1.cell 6, (HX.out W hW).2.1⟩)
      have x4 := (HXC.out w3 (Below.refl _ _)).1
      have x5 : w3.cell? ⟨w.heap.size, 5, none⟩ = some (.int .i64 logTerm) := HM.out.2.2.1.cell 5
      have HLW : Hid (∀ W, Below w3.heap.size w3 W → Calls Try.prog 40 #[.pointer (some ⟨g, 0, none⟩)] W fun e w' => e = .returned (.int .i64 (l : Nat)) ∧ w' = W) := Lib.hid (fun W hW => last_any W g l cs A (by rw [HN.out.1]; exact (HX.out W hW).1.c4))
      have HL := Lib.hid (fun N => HLW.out (w3.drewN N) (below_drewN (Below.refl _ _) N))
      clear HS HBX HRD
      by_cases hil : l < i
      · have e1 : decide ((l : Int) < (i : Int)) = true := decide_eq_true (by omega)
        have e2 : (l : Int) ≤ (i : Int) - 1 := by omega
        have HQ1 : Hid ((S', ms) = (S.foll frm, [(S.foll frm).ans ⟨mk, frm, to, term, (i : Nat), logTerm, ents, (q : Nat), mok⟩ 4 ((l : Nat) : Int) false])) := Lib.hid (by
          rw [HQ.out, if_neg (Int.not_lt.mpr hNT.out), if_neg hNR.out, if_pos (.inl (by rw [← HN.out.1]; omega)), show min (S.log.length : Int) ((i : Int) - 1) = ((l : Nat) : Int) by rw [← HN.out.1]; omega]; rfl)
        clear HQ
        go_wp2_with fail
        go_quiet (refine Calls.quiet_of_same (HL.out _))
        have HB4 := Lib.hid (below_drewN (Below.refl w3.heap.size w3) nq)
        generalize w3.drewN nq = w4 at *
        go_wp2_with fail
        refine wp_region_plan (.q 0 (.q 1 (.q 2 (.q 4 (.q 5 (.q 6 (.a1 3 (.q 7 (.a1 8 (.q 9 .fin)))))))))) 8 (fun W => Below w3.heap.size w3 W) (by kernel_rfl) rfl (by kernel_rfl) HB4.out.drew ?_
        refine wpPlan_q rfl rfl rfl ?_; intro K hK
        go_big_quiet_op
        first | go_big_quiet_on | (refine ⟨_, fun _ _ => rfl, ?_⟩; go_big_quiet_on)
        refine wpPlan_q rfl rfl rfl ?_; intro K hK
        refine quiet_load_row 34 (.tmp 3) rfl w.heap.size rfl 34 #[.int .u8 (mk : Nat), .int .i64 frm, .int .i64 to, .int .i64 term, .int .i64 (i : Nat), .int .i64 logTerm, .slice E n c, .int .i64 (q : Nat), .bool mok] (0, 0) _ (fun W hW => (HXC.out W hW).2.2) Try.underlying34 rfl (by kernel_rfl) ?_
        refine hK _ ?_
        clear hK K
        try simp only [Act.put, List.setIfInBounds_toArray, List.set_cons_succ, List.set_cons_zero]
        refine wpPlan_q rfl rfl rfl ?_; intro K hK
        go_big_quiet_op
        first | go_big_quiet_on | (refine ⟨_, fun _ _ => rfl, ?_⟩; go_big_quiet_on)
        refine wpPlan_q rfl rfl rfl ?_; intro K hK
        go_big_quiet_op
        first | go_big_quiet_on | (refine ⟨_, fun _ _ => rfl, ?_⟩; go_big_quiet_on)
        refine wpPlan_q rfl rfl rfl ?_; intro K hK
        refine ⟨(.int .i64 (i : Nat)), fun W hW => ?_, ?_⟩
        · have q0 := (HXC.out W hW).1
          unfold Oper.quietAt Oper.quietUpon
          simp [go_sem, q0]
        refine hK _ ?_
        clear hK K
        try simp only [Act.put, List.setIfInBounds_toArray, List.set_cons_succ, List.set_cons_zero]
        refine wpPlan_q rfl rfl rfl ?_; intro K hK
        go_big_quiet_op
        first | go_big_quiet_on | (refine ⟨_, fun _ _ => rfl, ?_⟩; go_big_quiet_on)
        refine wpPlan_act true rfl rfl rfl ?_; intro K hK
        go_simp
        refine (HLW.out _ HB4.out.drew).mono ?_
        rintro e w5 ⟨rfl, hw5⟩
        rw [hw5]
        clear hw5 w5
        refine hK _ _ (fun _ => HB4.out.drew) ?_
        clear hK K
        try simp only [Act.put, List.setIfInBounds_toArray, List.set_cons_succ, List.set_cons_zero]
        refine wpPlan_q rfl rfl rfl ?_; intro K hK
        go_big_quiet_op
        first | go_big_quiet_on | (refine ⟨_, fun _ _ => rfl, ?_⟩; go_big_quiet_on)
        refine wpPlan_act false rfl rfl rfl ?_; intro K hK
        go_simp
        refine (HAN.out (S.foll frm) A cs _ (HX.out _ HB4.out.drew).1 ((l : Nat)) false).mono ?_
        rintro e w9 ⟨⟨D, d, rfl, hms⟩, hb9⟩
        have HO : Hid (OutS w g A (S.foll frm) [(S.foll frm).ans ⟨mk, frm, to, term, (i : Nat), logTerm, ents, (q : Nat), mok⟩ 4 ((l : Nat)) false] (.returned (.slice D 1 d)) w9) := OutS.ans ⟨A, cs, (HX.out _ HB4.out.drew).1, HM.out.2.1.trans (.of_below HB4.out.drew), fun a ha => .inl ⟨a, ha, rfl⟩⟩ hms hb9
        clear hms hb9
        refine hK _ _ (fun h => by cases h) ?_
        clear hK K
        try simp only [Act.put, List.setIfInBounds_toArray, List.set_cons_succ, List.set_cons_zero]
        refine wpPlan_p rfl rfl rfl ?_; intro K hK
        go_big_quiet_op
        first | go_big_quiet_on | (refine ⟨_, fun _ _ => rfl, ?_⟩; go_big_quiet_on)
        refine wpPlan_fin ?_
        go_wp2_with fail
        go_ret
        have h := HQ1.out
        injection h with h1 h2
        rw [h1, h2]
        exact HO.out
      · have e1 : decide ((l : Int) < (i : Int)) = false := decide_eq_false (by omega)
        have HT : Hid (∀ N, Calls Try.prog 41 #[.pointer (some ⟨g, 0, none⟩), .int .i64 (i : Nat)] (w3.drewN N) fun e w' => e = .returned (.int .i64 (termAt S.log i)) ∧ w' = w3.drewN N) := Lib.hid (fun N => term_any (HX.out _ (below_drewN (Below.refl _ _) N)).1 i (by show i ≤ S.log.length; rw [← HN.out.1]; omega) (by show S.log.length ≤ _; rw [← HN.out.1]; omega))
        obtain ⟨T, hT⟩ : ∃ z, z = termAt S.log i := ⟨_, rfl⟩
        rw [← hT] at HT HQ
        clear hT
        by_cases htm : T = logTerm
        · have b2 : (T != logTerm) = false := by simp [htm]
          have HQ1 : Hid ((S', ms) = (if differs S.log ents i < n then
    (if i + differs S.log ents i < cm then (S.foll frm, [])
    else ({ S.foll frm with log := S.log.take (i + differs S.log ents i) ++ ents.drop (differs S.log ents i), commit := max cm (min q (i + n)) },
      [S.ans ⟨mk, frm, to, term, (i : Nat), logTerm, ents, (q : Nat), mok⟩ 4 ((i + n : Nat) : Int) true]))
  else ({ S.foll frm with commit := max cm (min q (i + n)) }, [S.ans ⟨mk, frm, to, term, (i : Nat), logTerm, ents, (q : Nat), mok⟩ 4 ((i + n : Nat) : Int) true]))) := Lib.hid (by
            rw [HQ.out, if_neg (Int.not_lt.mpr hNT.out), if_neg hNR.out, if_neg (fun h => h.elim (fun h => by rw [← HN.out.1] at h; omega) (fun h => h htm)), HN.out.2])
          clear HQ htm
          go_wp2_with fail
          go_quiet (first | refine Calls.quiet_of_same (HL.out _) | refine Calls.quiet_of_same (HT.out _))
          have HB4 := Lib.hid (below_drewN (Below.refl w3.heap.size w3) nq)
          generalize w3.drewN nq = w4 at *
          go_wp2_with fail
          refine wp_region_plan (.q 0 (.q 1 (.q 3 (.q 4 (.q 5 (.q 6 (.q 7 (.q 8 (.a1 2 (.q 9 (.q 10 .fin))))))))))) 11 (fun W => Below w3.heap.size w3 W) (by kernel_rfl) rfl (by kernel_rfl) HB4.out.drew ?_
          refine wpPlan_q rfl rfl rfl ?_; intro K hK
          go_big_quiet_op
          first | go_big_quiet_on | (refine ⟨_, fun _ _ => rfl, ?_⟩; go_big_quiet_on)
          refine wpPlan_q rfl rfl rfl ?_; intro K hK
          refine quiet_load_row 34 (.tmp 3) rfl w.heap.size rfl 34 #[.int .u8 (mk : Nat), .int .i64 frm, .int .i64 to, .int .i64 term, .int .i64 (i : Nat), .int .i64 logTerm, .slice E n c, .int .i64 (q : Nat), .bool mok] (0, 0) _ (fun W hW => (HXC.out W hW).2.2) Try.underlying34 rfl (by kernel_rfl) ?_
          refine hK _ ?_
          clear hK K
          try simp only [Act.put, List.setIfInBounds_toArray, List.set_cons_succ, List.set_cons_zero]
          refine wpPlan_q rfl rfl rfl ?_; intro K hK
          go_big_quiet_op
          first | go_big_quiet_on | (refine ⟨_, fun _ _ => rfl, ?_⟩; go_big_quiet_on)
          refine wpPlan_q rfl rfl rfl ?_; intro K hK
          refine ⟨(.int .i64 (i : Nat)), fun W hW => ?_, ?_⟩
          · have q0 := (HXC.out W hW).1
            unfold Oper.quietAt Oper.quietUpon
            simp [go_sem, q0]
          refine hK _ ?_
          clear hK K
          try simp only [Act.put, List.setIfInBounds_toArray, List.set_cons_succ, List.set_cons_zero]
          refine wpPlan_q rfl rfl rfl ?_; intro K hK
          go_big_quiet_op
          first | go_big_quiet_on | (refine ⟨_, fun _ _ => rfl, ?_⟩; go_big_quiet_on)
          refine wpPlan_q rfl rfl rfl ?_; intro K hK
          refine ⟨(.slice E n c), fun W hW => ?_, ?_⟩
          · have q0 := (HXC.out W hW).2.1
            unfold Oper.quietAt Oper.quietUpon
            simp [go_sem, q0]
          refine hK _ ?_
          clear hK K
          try simp only [Act.put, List.setIfInBounds_toArray, List.set_cons_succ, List.set_cons_zero]
          refine wpPlan_q rfl rfl rfl ?_; intro K hK
          go_big_quiet_op
          first | go_big_quiet_on | (refine ⟨_, fun _ _ => rfl, ?_⟩; go_big_quiet_on)
          refine wpPlan_q rfl rfl rfl ?_; intro K hK
          go_big_quiet_op
          first | go_big_quiet_on | (refine ⟨_, fun _ _ => rfl, ?_⟩; go_big_quiet_on)
          refine wpPlan_act true rfl rfl rfl ?_; intro K hK
          go_simp
          refine (HDF.out (S.foll frm) _ (HX.out _ HB4.out.drew).1 (HX.out _ HB4.out.drew).2.2 (by show S.log.length ≤ 4096; rw [← HN.out.1]; exact hl)).mono ?_
          rintro e w5 ⟨rfl, hb5⟩
          have HB5 : Hid (Below w3.heap.size w3 w5) := HB4.out.drew.trans (hb5.mono HB4.out.drew.size)
          clear hb5
          refine hK _ _ (fun _ => HB5.out) ?_
          clear hK K
          try simp only [Act.put, List.setIfInBounds_toArray, List.set_cons_succ, List.set_cons_zero]
          refine wpPlan_q rfl rfl rfl ?_; intro K hK
          go_big_quiet_op
          first | go_big_quiet_on | (refine ⟨_, fun _ _ => rfl, ?_⟩; go_big_quiet_on)
          refine wpPlan_q rfl rfl rfl ?_; intro K hK
          go_big_quiet_op
          first | go_big_quiet_on | (refine ⟨_, fun _ _ => rfl, ?_⟩; go_big_quiet_on)
          refine wpPlan_fin ?_
          have hd1 := differs_le S.log ents i
          have hd2 := differs_log S.log ents i (by rw [← HN.out.1]; omega)
          rw [← HNN.out] at hd1
          rw [← HN.out.1] at hd2
          rw [show (S.foll frm).log = S.log from rfl]
          obtain ⟨df, hdf⟩ : ∃ z, z = differs S.log ents i := ⟨_, rfl⟩
          rw [← hdf] at HQ1 hd1 hd2 ⊢
          clear hdf HL HT HB4 x4 x5 b2 e1 HLW hNT
          have HM5 : Hid (SvM w5 g (S.foll frm) A cs ∧ Chg (SvT g A) w w5 ∧ Blk w5 w.heap.size 34 #[.int .u8 (mk : Nat), .int .i64 frm, .int .i64 to, .int .i64 term, .int .i64 (i : Nat), .int .i64 logTerm, .slice E n c, .int .i64 (q : Nat), .bool mok] ∧ RdE w5 E ents) := Lib.hid ⟨(HX.out _ HB5.out).1, HM.out.2.1.trans (.of_below HB5.out), (HX.out _ HB5.out).2.1, (HX.out _ HB5.out).2.2⟩
          have y6 : w5.cell? ⟨w.heap.size, 6, none⟩ = some (.slice E n c) := HM5.out.2.2.1.cell 6
          by_cases hlt : df < n
          · have d3 : decide ((df : Int) < (n : Int)) = true := decide_eq_true (by omega)
            have y4 : w5.cell? ⟨w.heap.size, 4, none⟩ = some (.int .i64 (i : Nat)) := HM5.out.2.2.1.cell 4
            have c7 : w5.cell? ⟨g, 7, none⟩ = some (.int .i64 (cm : Nat)) := by rw [HN.out.2]; exact HM5.out.1.c7
            by_cases hcd : i + df < cm
            · have d4 : decide ((i : Int) + (df : Int) < (cm : Int)) = true := decide_eq_true (by omega)
              have HQ2 : Hid ((S', ms) = (S.foll frm, [])) := Lib.hid (by rw [HQ1.out, if_pos hlt, if_pos hcd])
              clear HQ1
              go_wp2_with fail
              go_ret
              have h := HQ2.out
              injection h with h1 h2
              rw [h1, h2]
              exact OutS.nil ⟨A, cs, HM5.out.1, HM5.out.2.1, fun a ha => .inl ⟨a, ha, rfl⟩⟩
            · have d4 : decide ((i : Int) + (df : Int) < (cm : Int)) = false := decide_eq_false (by omega)
              have HQ2 : Hid ((S', ms) = ({ S.foll frm with log := S.log.take (i + df) ++ ents.drop df, commit := max cm (min q (i + n)) },
      [S.ans ⟨mk, frm, to, term, (i : Nat), logTerm, ents, (q : Nat), mok⟩ 4 ((i + n : Nat) : Int) true])) := Lib.hid (by rw [HQ1.out, if_pos hlt, if_neg hcd])
              clear HQ1
              have hat : i + df ≤ cs := by have := HM5.out.1.cap; have h2 : (S.foll frm).log.length = l := HN.out.1.symm; rw [h2] at this; omega
              have hslC : (0 : Int) ≤ (i : Int) + (df : Int) := by omega
              have hslD : ((i : Int) + (df : Int)).toNat = i + df := by omega
              have hslE : (i : Int) + (df : Int) ≤ (cs : Int) := by omega
              have hsn : (n : Int) ≤ (c : Int) := by omega
              have hdn : (df : Int) ≤ (n : Int) := by omega
              have hd0 : (0 : Int) ≤ (df : Int) := by omega
              have HC5 : Hid (∀ W, Below w5.heap.size w5 W → W.cell? ⟨g, 4, none⟩ = some (.slice A l cs) ∧ W.cell? ⟨w.heap.size, 6, none⟩ = some (.slice E n c)) := Lib.hid (fun W hW => ⟨by rw [HN.out.1]; exact (HM5.out.1.below hW).c4, (HM5.out.2.2.1.below hW HM5.out.2.2.1.lt).cell 6⟩)
              have HR0 : Hid (Reads w5.drew w5.heap.size 2 (if cs = 0 then A else Option.map (fun x => x.add (0 * 2)) A) (i + df) (rowOf ecell (S.log.take (i + df)))) := by
                have h := (cut_ents (HM5.out.1.below (Below.refl _ _).drew) 0 (i + df) (Nat.zero_le _) (by show i + df ≤ S.log.length; rw [← HN.out.1]; exact hd2)).1
                have h2 := h.reads ecell_len
                rw [List.drop_zero] at h2
                have h3 : (List.take (i + df) (S.foll frm).log).length = i + df := by rw [List.length_take]; show min (i + df) S.log.length = i + df; rw [← HN.out.1]; omega
                rw [h3] at h2
                exact Lib.hid h2
              have HR1 : Hid (Reads w5.drew w5.heap.size 2 (if c = df then E else Option.map (fun x => x.add (df * 2)) E) (n - df) (rowOf ecell (ents.drop df))) := by
                have h := HM5.out.2.2.2.below (Below.refl w5.heap.size w5).drew
                have hne : ents ≠ [] := by intro e; have := HNN.out; rw [e] at this; simp at this; omega
                rcases h with h | ⟨b, off, hEe, hb, hat'⟩
                · exact absurd h hne
                · subst hEe
                  have h1 : RdE w5.drew (some ⟨b, off, none⟩) ents := .inr ⟨b, off, rfl, hb, hat'⟩
                  have h2 := (h1.cut df ents.length).reads ecell_len
                  rw [List.take_length, List.length_drop, ← HNN.out] at h2
                  rw [if_neg (by omega)]
                  show Hid (Reads w5.drew w5.heap.size 2 (some ((⟨b, off, none⟩ : Addr).add (df * 2))) (n - df) _)
                  rw [addr_add]
                  exact Lib.hid h2
              have HA0 : Hid ((if cs = 0 then A else Option.map (fun x => x.add (0 * 2)) A) = none → i + df = 0) := by
                have h := (cut_ents HM5.out.1 0 (i + df) (Nat.zero_le _) (by show i + df ≤ S.log.length; rw [← HN.out.1]; exact hd2)).2
                exact Lib.hid (fun e => by have := h e; omega)
              obtain ⟨A1, hA1⟩ : ∃ z, z = (if cs = 0 then A else Option.map (fun x => x.add (0 * 2)) A) := ⟨_, rfl⟩
              obtain ⟨E1, hE1⟩ : ∃ z, z = (if c = df then E else Option.map (fun x => x.add (df * 2)) E) := ⟨_, rfl⟩
              have HAE := Lib.hid (And.intro hA1 hE1)
              rw [← hA1] at HR0 HA0
              rw [← hE1] at HR1
              clear hA1 hE1
              go_wp2_with fail
              refine wp_region_plan (.q 0 (.q 1 (.q 2 (.q 3 (.q 4 (.q 5 (.q 6 (.q 7 (.q 9 (.q 10 (.q 11 (.q 12 (.a1 8 (.a1 13 (.q 14 (.q 15 (.q 16 (.a1 17 .fin)))))))))))))))))) 17 (fun W => Below w5.heap.size w5 W) (by kernel_rfl) rfl (by kernel_rfl) (Below.refl _ _).drew ?_
              refine wpPlan_q rfl rfl rfl ?_; intro K hK
              go_big_quiet_op
              first | go_big_quiet_on | (refine ⟨_, fun _ _ => rfl, ?_⟩; go_big_quiet_on)
              refine wpPlan_q rfl rfl rfl ?_; intro K hK
              go_big_quiet_op
              first | go_big_quiet_on | (refine ⟨_, fun _ _ => rfl, ?_⟩; go_big_quiet_on)
              refine wpPlan_q rfl rfl rfl ?_; intro K hK
              go_big_quiet_op
              first | go_big_quiet_on | (refine ⟨_, fun _ _ => rfl, ?_⟩; go_big_quiet_on)
              refine wpPlan_q rfl rfl rfl ?_; intro K hK
              go_big_quiet_op
              first | go_big_quiet_on | (refine ⟨_, fun _ _ => rfl, ?_⟩; go_big_quiet_on)
              refine wpPlan_q rfl rfl rfl ?_; intro K hK
              go_big_quiet_op
              first | go_big_quiet_on | (refine ⟨_, fun _ _ => rfl, ?_⟩; go_big_quiet_on)
              refine wpPlan_q rfl rfl rfl ?_; intro K hK
              refine ⟨(.slice A l cs), fun W hW => ?_, ?_⟩
              · have q0 := (HC5.out W hW).1
                unfold Oper.quietAt Oper.quietUpon
                simp [go_sem, q0]
              refine hK _ ?_
              clear hK K
              try simp only [Act.put, List.setIfInBounds_toArray, List.set_cons_succ, List.set_cons_zero]
              refine wpPlan_q rfl rfl rfl ?_; intro K hK
              go_big_quiet_op
              first | go_big_quiet_on | (refine ⟨_, fun _ _ => rfl, ?_⟩; go_big_quiet_on)
              refine wpPlan_q rfl rfl rfl ?_; intro K hK
              refine ⟨.slice A1 (i + df) cs, fun W hW => ?_, ?_⟩
              · unfold Oper.quietAt Oper.quietUpon
                rw [HAE.out.1]
                simp [go_sem, hslC, hslD, hslE]
              refine hK _ ?_
              clear hK K
              try simp only [Act.put, List.setIfInBounds_toArray, List.set_cons_succ, List.set_cons_zero]
              refine wpPlan_q rfl rfl rfl ?_; intro K hK
              go_big_quiet_op
              first | go_big_quiet_on | (refine ⟨_, fun _ _ => rfl, ?_⟩; go_big_quiet_on)
              refine wpPlan_q rfl rfl rfl ?_; intro K hK
              refine ⟨(.slice E n c), fun W hW => ?_, ?_⟩
              · have q0 := (HC5.out W hW).2
                unfold Oper.quietAt Oper.quietUpon
                simp [go_sem, q0]
              refine hK _ ?_
              clear hK K
              try simp only [Act.put, List.setIfInBounds_toArray, List.set_cons_succ, List.set_cons_zero]
              refine wpPlan_q rfl rfl rfl ?_; intro K hK
              go_big_quiet_op
              first | go_big_quiet_on | (refine ⟨_, fun _ _ => rfl, ?_⟩; go_big_quiet_on)
              refine wpPlan_q rfl rfl rfl ?_; intro K hK
              refine ⟨.slice E1 (n - df) (c - df), fun W hW => ?_, ?_⟩
              · unfold Oper.quietAt Oper.quietUpon
                rw [HAE.out.2]
                simp [go_sem, hsn, hdn, hd0]
              refine hK _ ?_
              clear hK K
              try simp only [Act.put, List.setIfInBounds_toArray, List.set_cons_succ, List.set_cons_zero]
              refine wpPlan_act true rfl rfl rfl ?_; intro K hK
              go_simp
              refine (clip_any _ (i + df) cs _ hat (by omega)).mono ?_
              rintro e w6 ⟨rfl, hw6⟩
              rw [hw6]
              clear hw6 w6
              refine hK _ _ (fun _ => (Below.refl _ _).drew) ?_
              clear hK K
              try simp only [Act.put, List.setIfInBounds_toArray, List.set_cons_succ, List.set_cons_zero]
              refine wpPlan_act true rfl rfl rfl ?_; intro K hK
              refine wp_app_full (.tmp 89) (.tmp 93) rfl (i + df) (n - df) (c - df) w5.heap.size w5.heap.size A1 E1 (S.log.take (i + df)) (ents.drop df) rfl HR0.out rfl HR1.out (by omega) HA0.out (by omega) ?_
              intro A6 c6 w6 ho6 hg6
              have H6 : Hid (w6.ownsRow w5.heap.size 39 2 (.slice A6 (i + df + (n - df)) c6) (i + df + (n - df)) (rowOf ecell (S.log.take (i + df) ++ ents.drop df)) ∧ Below w5.heap.size w5 w6) := Lib.hid ⟨ho6, (Below.refl w5.heap.size w5).drew.grown hg6 (Nat.le_refl _) (fun r hr => by cases hr)⟩
              clear ho6 hg6
              refine hK _ _ (fun _ => H6.out.2) ?_
              clear hK K
              try simp only [Act.put, List.setIfInBounds_toArray, List.set_cons_succ, List.set_cons_zero]
              refine wpPlan_q rfl rfl rfl ?_; intro K hK
              go_big_quiet_op
              first | go_big_quiet_on | (refine ⟨_, fun _ _ => rfl, ?_⟩; go_big_quiet_on)
              refine wpPlan_q rfl rfl rfl ?_; intro K hK
              go_big_quiet_op
              first | go_big_quiet_on | (refine ⟨_, fun _ _ => rfl, ?_⟩; go_big_quiet_on)
              refine wpPlan_q rfl rfl rfl ?_; intro K hK
              go_big_quiet_op
              first | go_big_quiet_on | (refine ⟨_, fun _ _ => rfl, ?_⟩; go_big_quiet_on)
              refine wpPlan_act false rfl rfl rfl ?_; intro K hK
              have j4 := (HC5.out _ H6.out.2).1
              have g4 : w6.frozen? ⟨g, 4, none⟩ = false := (HM5.out.1.below H6.out.2).top.frozen 4
              go_simp
              refine hK _ _ (fun h => by cases h) ?_
              clear hK K
              try simp only [Act.put, List.setIfInBounds_toArray, List.set_cons_succ, List.set_cons_zero]
              refine wpPlan_fin ?_
              have hL : (S.log.take (i + df) ++ ents.drop df).length = i + df + (n - df) := by rw [List.length_append, List.length_take, List.length_drop, ← HN.out.1, ← HNN.out]; omega
              have hk := HM5.out.1.renew (A' := A6) (c' := c6) (L := S.log.take (i + df) ++ ents.drop df) H6.out.2 (by rw [hL]; exact H6.out.1)
              rw [hL] at hk
              have hch : Chg (fun b => b = g) w5 (w6.setCell ⟨g, 4, none⟩ (.slice A6 (i + df + (n - df)) c6)) := Chg.setCell (T := fun b => b = g) (Chg.of_below H6.out.2) (p := ⟨g, 4, none⟩) rfl _
              obtain ⟨A8, c8, hm8, hc8, ht8⟩ := KeepsM.trans HM5.out.2.1 (fun a ha => .inl ⟨a, ha, rfl⟩) hk
              have H8 : Hid (SvM (w6.setCell ⟨g, 4, none⟩ (.slice A6 (i + df + (n - df)) c6)) g { S.foll frm with log := S.log.take (i + df) ++ ents.drop df } A8 c8 ∧ Chg (SvT g A) w (w6.setCell ⟨g, 4, none⟩ (.slice A6 (i + df + (n - df)) c6)) ∧ (∀ a, A8 = some a → (∃ a0, A = some a0 ∧ a.block = a0.block) ∨ w.heap.size ≤ a.block) ∧ Blk (w6.setCell ⟨g, 4, none⟩ (.slice A6 (i + df + (n - df)) c6)) w.heap.size 34 #[.int .u8 (mk : Nat), .int .i64 frm, .int .i64 to, .int .i64 term, .int .i64 (i : Nat), .int .i64 logTerm, .slice E n c, .int .i64 (q : Nat), .bool mok]) := Lib.hid ⟨hm8, hc8, ht8, HM5.out.2.2.1.chg hch (fun h => hbg h)⟩
              clear hm8 hc8 ht8 hk hch hL H6 HM5 HR0 HR1 HA0 HAE HC5 hat hslC hslD hslE hsn hdn hd0
              generalize w6.setCell ⟨g, 4, none⟩ (.slice A6 (i + df + (n - df)) c6) = w8 at *
              obtain ⟨S8, hS8⟩ : ∃ z, z = { S.foll frm with log := S.log.take (i + df) ++ ents.drop df } := ⟨_, rfl⟩
              have HQ3 : Hid ((S', ms) = ({ S8 with commit := max cm (min q (i + n)) }, [S8.ans ⟨mk, frm, to, term, (i : Nat), logTerm, ents, (q : Nat), mok⟩ 4 ((i + n : Nat) : Int) true]) ∧ S8.commit = cm) := by rw [hS8]; exact Lib.hid ⟨HQ2.out, HN.out.2.symm⟩
              rw [← hS8] at H8
              clear hS8 HQ2
              have z7 : w8.cell? ⟨w.heap.size, 7, none⟩ = some (.int .i64 (q : Nat)) := H8.out.2.2.2.cell 7
              have c7 : w8.cell? ⟨g, 7, none⟩ = some (.int .i64 (cm : Nat)) := by rw [← HQ3.out.2]; exact H8.out.1.c7
              have f7 : w8.frozen? ⟨g, 7, none⟩ = false := H8.out.1.top.frozen 7
              by_cases h1 : (q : Int) ≤ (i : Int) + (n : Int)
              · by_cases h2 : (q : Int) ≤ (cm : Int)
                · have hv : max cm (min q (i + n)) = cm := by omega
                  have HQ1 : Hid ((S', ms) = ({ S8 with commit := cm }, [S8.ans ⟨mk, frm, to, term, (i : Nat), logTerm, ents, (q : Nat), mok⟩ 4 ((i + n : Nat) : Int) true])) := Lib.hid (by rw [HQ3.out.1, hv])
                  clear hv
                  go_wp2_with fail
                  go_region
                  have hst := H8.out.1.set (S' := { S8 with commit := cm }) 7 (.int .i64 ((cm : Nat) : Int)) rfl H8.out.1.nxl H8.out.1.mtl rfl
                  have HST : Hid (SvM (w8.setCell ⟨g, 7, none⟩ (.int .i64 (cm : Int))).drew g { S8 with commit := cm } A8 c8 ∧ Chg (SvT g A) w (w8.setCell ⟨g, 7, none⟩ (.int .i64 (cm : Int))).drew ∧ Blk (w8.setCell ⟨g, 7, none⟩ (.int .i64 (cm : Int))).drew w.heap.size 34 #[.int .u8 (mk : Nat), .int .i64 frm, .int .i64 to, .int .i64 term, .int .i64 (i : Nat), .int .i64 logTerm, .slice E n c, .int .i64 (q : Nat), .bool mok]) := Lib.hid ⟨hst.1.drew, (H8.out.2.1.trans (hst.2.mono (fun b hb => .inl hb))).drewN 1, (H8.out.2.2.2.chg hst.2 (fun h => hbg h)).drewN 1⟩
                  clear hst
                  generalize (w8.setCell ⟨g, 7, none⟩ (.int .i64 (cm : Int))).drew = w10 at *
                  go_wp2_with (first | (refine wpList_load_row rfl 34 _ rfl w.heap.size rfl 34 #[.int .u8 (mk : Nat), .int .i64 frm, .int .i64 to, .int .i64 term, .int .i64 (i : Nat), .int .i64 logTerm, .slice E n c, .int .i64 (q : Nat), .bool mok] (0, 0) _ (HST.out.2.2) Try.underlying34 rfl (by kernel_rfl) ?_) | fail)
                  refine (HAN.out { S8 with commit := cm } A8 c8 _ HST.out.1 ((i : Int) + (n : Int)) true).mono ?_
                  rintro e w9 ⟨⟨D, d, rfl, hms⟩, hb9⟩
                  have HO : Hid (OutS w g A { S8 with commit := cm } [S8.ans ⟨mk, frm, to, term, (i : Nat), logTerm, ents, (q : Nat), mok⟩ 4 ((i : Int) + (n : Int)) true] (.returned (.slice D 1 d)) w9) := OutS.ans ⟨A8, c8, HST.out.1, HST.out.2.1, H8.out.2.2.1⟩ hms hb9
                  clear hms hb9
                  go_wp2_with fail
                  go_ret
                  have h := HQ1.out
                  rw [show ((i + n : Nat) : Int) = (i : Int) + (n : Int) by omega] at h
                  injection h with h1 h2
                  rw [h1, h2]
                  exact HO.out
                · have h2' : decide ((q : Int) ≤ (cm : Int)) = false := decide_eq_false h2
                  have hv : max cm (min q (i + n)) = q := by omega
                  have HQ1 : Hid ((S', ms) = ({ S8 with commit := q }, [S8.ans ⟨mk, frm, to, term, (i : Nat), logTerm, ents, (q : Nat), mok⟩ 4 ((i + n : Nat) : Int) true])) := Lib.hid (by rw [HQ3.out.1, hv])
                  clear hv
                  go_wp2_with fail
                  go_region
                  have hst := H8.out.1.set (S' := { S8 with commit := q }) 7 (.int .i64 ((q : Nat) : Int)) rfl H8.out.1.nxl H8.out.1.mtl rfl
                  have HST : Hid (SvM (w8.setCell ⟨g, 7, none⟩ (.int .i64 (q : Int))).drew g { S8 with commit := q } A8 c8 ∧ Chg (SvT g A) w (w8.setCell ⟨g, 7, none⟩ (.int .i64 (q : Int))).drew ∧ Blk (w8.setCell ⟨g, 7, none⟩ (.int .i64 (q : Int))).drew w.heap.size 34 #[.int .u8 (mk : Nat), .int .i64 frm, .int .i64 to, .int .i64 term, .int .i64 (i : Nat), .int .i64 logTerm, .slice E n c, .int .i64 (q : Nat), .bool mok]) := Lib.hid ⟨hst.1.drew, (H8.out.2.1.trans (hst.2.mono (fun b hb => .inl hb))).drewN 1, (H8.out.2.2.2.chg hst.2 (fun h => hbg h)).drewN 1⟩
                  clear hst
                  generalize (w8.setCell ⟨g, 7, none⟩ (.int .i64 (q : Int))).drew = w10 at *
                  go_wp2_with (first | (refine wpList_load_row rfl 34 _ rfl w.heap.size rfl 34 #[.int .u8 (mk : Nat), .int .i64 frm, .int .i64 to, .int .i64 term, .int .i64 (i : Nat), .int .i64 logTerm, .slice E n c, .int .i64 (q : Nat), .bool mok] (0, 0) _ (HST.out.2.2) Try.underlying34 rfl (by kernel_rfl) ?_) | fail)
                  refine (HAN.out { S8 with commit := q } A8 c8 _ HST.out.1 ((i : Int) + (n : Int)) true).mono ?_
                  rintro e w9 ⟨⟨D, d, rfl, hms⟩, hb9⟩
                  have HO : Hid (OutS w g A { S8 with commit := q } [S8.ans ⟨mk, frm, to, term, (i : Nat), logTerm, ents, (q : Nat), mok⟩ 4 ((i : Int) + (n : Int)) true] (.returned (.slice D 1 d)) w9) := OutS.ans ⟨A8, c8, HST.out.1, HST.out.2.1, H8.out.2.2.1⟩ hms hb9
                  clear hms hb9
                  go_wp2_with fail
                  go_ret
                  have h := HQ1.out
                  rw [show ((i + n : Nat) : Int) = (i : Int) + (n : Int) by omega] at h
                  injection h with h1 h2
                  rw [h1, h2]
                  exact HO.out
              · have h1' : decide ((q : Int) ≤ (i : Int) + (n : Int)) = false := decide_eq_false h1
                by_cases h2 : (i : Int) + (n : Int) ≤ (cm : Int)
                · exact absurd h2 (by omega)
                · have h2' : decide ((i : Int) + (n : Int) ≤ (cm : Int)) = false := decide_eq_false h2
                  have hv : max cm (min q (i + n)) = i + n := by omega
                  have HQ1 : Hid ((S', ms) = ({ S8 with commit := i + n }, [S8.ans ⟨mk, frm, to, term, (i : Nat), logTerm, ents, (q : Nat), mok⟩ 4 ((i + n : Nat) : Int) true])) := Lib.hid (by rw [HQ3.out.1, hv])
                  clear hv
                  go_wp2_with fail
                  go_region
                  have hst := H8.out.1.set (S' := { S8 with commit := i + n }) 7 (.int .i64 ((i + n : Nat) : Int)) rfl H8.out.1.nxl H8.out.1.mtl rfl
                  rw [show ((i + n : Nat) : Int) = (i : Int) + (n : Int) by omega] at hst
                  have HST : Hid (SvM (w8.setCell ⟨g, 7, none⟩ (.int .i64 ((i : Int) + (n : Int)))).drew g { S8 with commit := i + n } A8 c8 ∧ Chg (SvT g A) w (w8.setCell ⟨g, 7, none⟩ (.int .i64 ((i : Int) + (n : Int)))).drew ∧ Blk (w8.setCell ⟨g, 7, none⟩ (.int .i64 ((i : Int) + (n : Int)))).drew w.heap.size 34 #[.int .u8 (mk : Nat), .int .i64 frm, .int .i64 to, .int .i64 term, .int .i64 (i : Nat), .int .i64 logTerm, .slice E n c, .int .i64 (q : Nat), .bool mok]) := Lib.hid ⟨hst.1.drew, (H8.out.2.1.trans (hst.2.mono (fun b hb => .inl hb))).drewN 1, (H8.out.2.2.2.chg hst.2 (fun h => hbg h)).drewN 1⟩
                  clear hst
                  generalize (w8.setCell ⟨g, 7, none⟩ (.int .i64 ((i : Int) + (n : Int)))).drew = w10 at *
                  go_wp2_with (first | (refine wpList_load_row rfl 34 _ rfl w.heap.size rfl 34 #[.int .u8 (mk : Nat), .int .i64 frm, .int .i64 to, .int .i64 term, .int .i64 (i : Nat), .int .i64 logTerm, .slice E n c, .int .i64 (q : Nat), .bool mok] (0, 0) _ (HST.out.2.2) Try.underlying34 rfl (by kernel_rfl) ?_) | fail)
                  refine (HAN.out { S8 with commit := i + n } A8 c8 _ HST.out.1 ((i : Int) + (n : Int)) true).mono ?_
                  rintro e w9 ⟨⟨D, d, rfl, hms⟩, hb9⟩
                  have HO : Hid (OutS w g A { S8 with commit := i + n } [S8.ans ⟨mk, frm, to, term, (i : Nat), logTerm, ents, (q : Nat), mok⟩ 4 ((i : Int) + (n : Int)) true] (.returned (.slice D 1 d)) w9) := OutS.ans ⟨A8, c8, HST.out.1, HST.out.2.1, H8.out.2.2.1⟩ hms hb9
                  clear hms hb9
                  go_wp2_with fail
                  go_ret
                  have h := HQ1.out
                  rw [show ((i + n : Nat) : Int) = (i : Int) + (n : Int) by omega] at h
                  injection h with h1 h2
                  rw [h1, h2]
                  exact HO.out
          · have d3 : decide ((df : Int) < (n : Int)) = false := decide_eq_false (by omega)
            have HQ2 : Hid ((S', ms) = ({ S.foll frm with commit := max cm (min q (i + n)) }, [S.ans ⟨mk, frm, to, term, (i : Nat), logTerm, ents, (q : Nat), mok⟩ 4 ((i + n : Nat) : Int) true])) := Lib.hid (by rw [HQ1.out, if_neg hlt])
            obtain ⟨S8, hS8⟩ : ∃ z, z = S.foll frm := ⟨_, rfl⟩
            have H8 : Hid (SvM w5 g S8 A cs ∧ Chg (SvT g A) w w5 ∧ (∀ a, A = some a → (∃ a0, A = some a0 ∧ a.block = a0.block) ∨ w.heap.size ≤ a.block) ∧ Blk w5 w.heap.size 34 #[.int .u8 (mk : Nat), .int .i64 frm, .int .i64 to, .int .i64 term, .int .i64 (i : Nat), .int .i64 logTerm, .slice E n c, .int .i64 (q : Nat), .bool mok]) := by rw [hS8]; exact Lib.hid ⟨HM5.out.1, HM5.out.2.1, fun a ha => .inl ⟨a, ha, rfl⟩, HM5.out.2.2.1⟩
            have HQ3 : Hid ((S', ms) = ({ S8 with commit := max cm (min q (i + n)) }, [S8.ans ⟨mk, frm, to, term, (i : Nat), logTerm, ents, (q : Nat), mok⟩ 4 ((i + n : Nat) : Int) true]) ∧ S8.commit = cm) := by rw [hS8]; exact Lib.hid ⟨HQ2.out, HN.out.2.symm⟩
            clear hS8 HQ2 HQ1 HM5
            have z7 : w5.cell? ⟨w.heap.size, 7, none⟩ = some (.int .i64 (q : Nat)) := H8.out.2.2.2.cell 7
            have c7 : w5.cell? ⟨g, 7, none⟩ = some (.int .i64 (cm : Nat)) := by rw [← HQ3.out.2]; exact H8.out.1.c7
            have f7 : w5.frozen? ⟨g, 7, none⟩ = false := H8.out.1.top.frozen 7
            by_cases h1 : (q : Int) ≤ (i : Int) + (n : Int)
            · by_cases h2 : (q : Int) ≤ (cm : Int)
              · have hv : max cm (min q (i + n)) = cm := by omega
                have HQ1 : Hid ((S', ms) = ({ S8 with commit := cm }, [S8.ans ⟨mk, frm, to, term, (i : Nat), logTerm, ents, (q : Nat), mok⟩ 4 ((i + n : Nat) : Int) true])) := Lib.hid (by rw [HQ3.out.1, hv])
                clear hv
                go_wp2_with fail
                go_region
                have hst := H8.out.1.set (S' := { S8 with commit := cm }) 7 (.int .i64 ((cm : Nat) : Int)) rfl H8.out.1.nxl H8.out.1.mtl rfl
                have HST : Hid (SvM (w5.setCell ⟨g, 7, none⟩ (.int .i64 (cm : Int))).drew g { S8 with commit := cm } A cs ∧ Chg (SvT g A) w (w5.setCell ⟨g, 7, none⟩ (.int .i64 (cm : Int))).drew ∧ Blk (w5.setCell ⟨g, 7, none⟩ (.int .i64 (cm : Int))).drew w.heap.size 34 #[.int .u8 (mk : Nat), .int .i64 frm, .int .i64 to, .int .i64 term, .int .i64 (i : Nat), .int .i64 logTerm, .slice E n c, .int .i64 (q : Nat), .bool mok]) := Lib.hid ⟨hst.1.drew, (H8.out.2.1.trans (hst.2.mono (fun b hb => .inl hb))).drewN 1, (H8.out.2.2.2.chg hst.2 (fun h => hbg h)).drewN 1⟩
                clear hst
                generalize (w5.setCell ⟨g, 7, none⟩ (.int .i64 (cm : Int))).drew = w10 at *
                go_wp2_with (first | (refine wpList_load_row rfl 34 _ rfl w.heap.size rfl 34 #[.int .u8 (mk : Nat), .int .i64 frm, .int .i64 to, .int .i64 term, .int .i64 (i : Nat), .int .i64 logTerm, .slice E n c, .int .i64 (q : Nat), .bool mok] (0, 0) _ (HST.out.2.2) Try.underlying34 rfl (by kernel_rfl) ?_) | fail)
                refine (HAN.out { S8 with commit := cm } A cs _ HST.out.1 ((i : Int) + (n : Int)) true).mono ?_
                rintro e w9 ⟨⟨D, d, rfl, hms⟩, hb9⟩
                have HO : Hid (OutS w g A { S8 with commit := cm } [S8.ans ⟨mk, frm, to, term, (i : Nat), logTerm, ents, (q : Nat), mok⟩ 4 ((i : Int) + (n : Int)) true] (.returned (.slice D 1 d)) w9) := OutS.ans ⟨A, cs, HST.out.1, HST.out.2.1, H8.out.2.2.1⟩ hms hb9
                clear hms hb9
                go_wp2_with fail
                go_ret
                have h := HQ1.out
                rw [show ((i + n : Nat) : Int) = (i : Int) + (n : Int) by omega] at h
                injection h with h1 h2
                rw [h1, h2]
                exact HO.out
              · have h2' : decide ((q : Int) ≤ (cm : Int)) = false := decide_eq_false h2
                have hv : max cm (min q (i + n)) = q := by omega
                have HQ1 : Hid ((S', ms) = ({ S8 with commit := q }, [S8.ans ⟨mk, frm, to, term, (i : Nat), logTerm, ents, (q : Nat), mok⟩ 4 ((i + n : Nat) : Int) true])) := Lib.hid (by rw [HQ3.out.1, hv])
                clear hv
                go_wp2_with fail
                go_region
                have hst := H8.out.1.set (S' := { S8 with commit := q }) 7 (.int .i64 ((q : Nat) : Int)) rfl H8.out.1.nxl H8.out.1.mtl rfl
                have HST : Hid (SvM (w5.setCell ⟨g, 7, none⟩ (.int .i64 (q : Int))).drew g { S8 with commit := q } A cs ∧ Chg (SvT g A) w (w5.setCell ⟨g, 7, none⟩ (.int .i64 (q : Int))).drew ∧ Blk (w5.setCell ⟨g, 7, none⟩ (.int .i64 (q : Int))).drew w.heap.size 34 #[.int .u8 (mk : Nat), .int .i64 frm, .int .i64 to, .int .i64 term, .int .i64 (i : Nat), .int .i64 logTerm, .slice E n c, .int .i64 (q : Nat), .bool mok]) := Lib.hid ⟨hst.1.drew, (H8.out.2.1.trans (hst.2.mono (fun b hb => .inl hb))).drewN 1, (H8.out.2.2.2.chg hst.2 (fun h => hbg h)).drewN 1⟩
                clear hst
                generalize (w5.setCell ⟨g, 7, none⟩ (.int .i64 (q : Int))).drew = w10 at *
                go_wp2_with (first | (refine wpList_load_row rfl 34 _ rfl w.heap.size rfl 34 #[.int .u8 (mk : Nat), .int .i64 frm, .int .i64 to, .int .i64 term, .int .i64 (i : Nat), .int .i64 logTerm, .slice E n c, .int .i64 (q : Nat), .bool mok] (0, 0) _ (HST.out.2.2) Try.underlying34 rfl (by kernel_rfl) ?_) | fail)
                refine (HAN.out { S8 with commit := q } A cs _ HST.out.1 ((i : Int) + (n : Int)) true).mono ?_
                rintro e w9 ⟨⟨D, d, rfl, hms⟩, hb9⟩
                have HO : Hid (OutS w g A { S8 with commit := q } [S8.ans ⟨mk, frm, to, term, (i : Nat), logTerm, ents, (q : Nat), mok⟩ 4 ((i : Int) + (n : Int)) true] (.returned (.slice D 1 d)) w9) := OutS.ans ⟨A, cs, HST.out.1, HST.out.2.1, H8.out.2.2.1⟩ hms hb9
                clear hms hb9
                go_wp2_with fail
                go_ret
                have h := HQ1.out
                rw [show ((i + n : Nat) : Int) = (i : Int) + (n : Int) by omega] at h
                injection h with h1 h2
                rw [h1, h2]
                exact HO.out
            · have h1' : decide ((q : Int) ≤ (i : Int) + (n : Int)) = false := decide_eq_false h1
              by_cases h2 : (i : Int) + (n : Int) ≤ (cm : Int)
              · have hv : max cm (min q (i + n)) = cm := by omega
                have HQ1 : Hid ((S', ms) = ({ S8 with commit := cm }, [S8.ans ⟨mk, frm, to, term, (i : Nat), logTerm, ents, (q : Nat), mok⟩ 4 ((i + n : Nat) : Int) true])) := Lib.hid (by rw [HQ3.out.1, hv])
                clear hv
                go_wp2_with fail
                go_region
                have hst := H8.out.1.set (S' := { S8 with commit := cm }) 7 (.int .i64 ((cm : Nat) : Int)) rfl H8.out.1.nxl H8.out.1.mtl rfl
                have HST : Hid (SvM (w5.setCell ⟨g, 7, none⟩ (.int .i64 (cm : Int))).drew g { S8 with commit := cm } A cs ∧ Chg (SvT g A) w (w5.setCell ⟨g, 7, none⟩ (.int .i64 (cm : Int))).drew ∧ Blk (w5.setCell ⟨g, 7, none⟩ (.int .i64 (cm : Int))).drew w.heap.size 34 #[.int .u8 (mk : Nat), .int .i64 frm, .int .i64 to, .int .i64 term, .int .i64 (i : Nat), .int .i64 logTerm, .slice E n c, .int .i64 (q : Nat), .bool mok]) := Lib.hid ⟨hst.1.drew, (H8.out.2.1.trans (hst.2.mono (fun b hb => .inl hb))).drewN 1, (H8.out.2.2.2.chg hst.2 (fun h => hbg h)).drewN 1⟩
                clear hst
                generalize (w5.setCell ⟨g, 7, none⟩ (.int .i64 (cm : Int))).drew = w10 at *
                go_wp2_with (first | (refine wpList_load_row rfl 34 _ rfl w.heap.size rfl 34 #[.int .u8 (mk : Nat), .int .i64 frm, .int .i64 to, .int .i64 term, .int .i64 (i : Nat), .int .i64 logTerm, .slice E n c, .int .i64 (q : Nat), .bool mok] (0, 0) _ (HST.out.2.2) Try.underlying34 rfl (by kernel_rfl) ?_) | fail)
                refine (HAN.out { S8 with commit := cm } A cs _ HST.out.1 ((i : Int) + (n : Int)) true).mono ?_
                rintro e w9 ⟨⟨D, d, rfl, hms⟩, hb9⟩
                have HO : Hid (OutS w g A { S8 with commit := cm } [S8.ans ⟨mk, frm, to, term, (i : Nat), logTerm, ents, (q : Nat), mok⟩ 4 ((i : Int) + (n : Int)) true] (.returned (.slice D 1 d)) w9) := OutS.ans ⟨A, cs, HST.out.1, HST.out.2.1, H8.out.2.2.1⟩ hms hb9
                clear hms hb9
                go_wp2_with fail
                go_ret
                have h := HQ1.out
                rw [show ((i + n : Nat) : Int) = (i : Int) + (n : Int) by omega] at h
                injection h with h1 h2
                rw [h1, h2]
                exact HO.out
              · have h2' : decide ((i : Int) + (n : Int) ≤ (cm : Int)) = false := decide_eq_false h2
                have hv : max cm (min q (i + n)) = i + n := by omega
                have HQ1 : Hid ((S', ms) = ({ S8 with commit := i + n }, [S8.ans ⟨mk, frm, to, term, (i : Nat), logTerm, ents, (q : Nat), mok⟩ 4 ((i + n : Nat) : Int) true])) := Lib.hid (by rw [HQ3.out.1, hv])
                clear hv
                go_wp2_with fail
                go_region
                have hst := H8.out.1.set (S' := { S8 with commit := i + n }) 7 (.int .i64 ((i + n : Nat) : Int)) rfl H8.out.1.nxl H8.out.1.mtl rfl
                rw [show ((i + n : Nat) : Int) = (i : Int) + (n : Int) by omega] at hst
                have HST : Hid (SvM (w5.setCell ⟨g, 7, none⟩ (.int .i64 ((i : Int) + (n : Int)))).drew g { S8 with commit := i + n } A cs ∧ Chg (SvT g A) w (w5.setCell ⟨g, 7, none⟩ (.int .i64 ((i : Int) + (n : Int)))).drew ∧ Blk (w5.setCell ⟨g, 7, none⟩ (.int .i64 ((i : Int) + (n : Int)))).drew w.heap.size 34 #[.int .u8 (mk : Nat), .int .i64 frm, .int .i64 to, .int .i64 term, .int .i64 (i : Nat), .int .i64 logTerm, .slice E n c, .int .i64 (q : Nat), .bool mok]) := Lib.hid ⟨hst.1.drew, (H8.out.2.1.trans (hst.2.mono (fun b hb => .inl hb))).drewN 1, (H8.out.2.2.2.chg hst.2 (fun h => hbg h)).drewN 1⟩
                clear hst
                generalize (w5.setCell ⟨g, 7, none⟩ (.int .i64 ((i : Int) + (n : Int)))).drew = w10 at *
                go_wp2_with (first | (refine wpList_load_row rfl 34 _ rfl w.heap.size rfl 34 #[.int .u8 (mk : Nat), .int .i64 frm, .int .i64 to, .int .i64 term, .int .i64 (i : Nat), .int .i64 logTerm, .slice E n c, .int .i64 (q : Nat), .bool mok] (0, 0) _ (HST.out.2.2) Try.underlying34 rfl (by kernel_rfl) ?_) | fail)
                refine (HAN.out { S8 with commit := i + n } A cs _ HST.out.1 ((i : Int) + (n : Int)) true).mono ?_
                rintro e w9 ⟨⟨D, d, rfl, hms⟩, hb9⟩
                have HO : Hid (OutS w g A { S8 with commit := i + n } [S8.ans ⟨mk, frm, to, term, (i : Nat), logTerm, ents, (q : Nat), mok⟩ 4 ((i : Int) + (n : Int)) true] (.returned (.slice D 1 d)) w9) := OutS.ans ⟨A, cs, HST.out.1, HST.out.2.1, H8.out.2.2.1⟩ hms hb9
                clear hms hb9
                go_wp2_with fail
                go_ret
                have h := HQ1.out
                rw [show ((i + n : Nat) : Int) = (i : Int) + (n : Int) by omega] at h
                injection h with h1 h2
                rw [h1, h2]
                exact HO.out
        · have b2 : (T != logTerm) = true := by simp [htm]
          have e2 : decide ((l : Int) ≤ (i : Int) - 1) = false := decide_eq_false (by omega)
          have HQ1 : Hid ((S', ms) = (S.foll frm, [(S.foll frm).ans ⟨mk, frm, to, term, (i : Nat), logTerm, ents, (q : Nat), mok⟩ 4 ((i : Int) - 1) false])) := Lib.hid (by
            rw [HQ.out, if_neg (Int.not_lt.mpr hNT.out), if_neg hNR.out, if_pos (.inr htm), show min (S.log.length : Int) ((i : Int) - 1) = (i : Int) - 1 by rw [← HN.out.1]; omega]; rfl)
          clear HQ htm
          go_wp2_with fail
          go_quiet (first | refine Calls.quiet_of_same (HL.out _) | refine Calls.quiet_of_same (HT.out _))
          have HB4 := Lib.hid (below_drewN (Below.refl w3.heap.size w3) nq)
          generalize w3.drewN nq = w4 at *
          go_wp2_with fail
          refine wp_region_plan (.q 0 (.q 1 (.q 2 (.q 4 (.q 5 (.q 6 (.a1 3 (.q 7 (.a1 8 (.q 9 .fin)))))))))) 8 (fun W => Below w3.heap.size w3 W) (by kernel_rfl) rfl (by kernel_rfl) HB4.out.drew ?_
          refine wpPlan_q rfl rfl rfl ?_; intro K hK
          go_big_quiet_op
          first | go_big_quiet_on | (refine ⟨_, fun _ _ => rfl, ?_⟩; go_big_quiet_on)
          refine wpPlan_q rfl rfl rfl ?_; intro K hK
          refine quiet_load_row 34 (.tmp 3) rfl w.heap.size rfl 34 #[.int .u8 (mk : Nat), .int .i64 frm, .int .i64 to, .int .i64 term, .int .i64 (i : Nat), .int .i64 logTerm, .slice E n c, .int .i64 (q : Nat), .bool mok] (0, 0) _ (fun W hW => (HXC.out W hW).2.2) Try.underlying34 rfl (by kernel_rfl) ?_
          refine hK _ ?_
          clear hK K
          try simp only [Act.put, List.setIfInBounds_toArray, List.set_cons_succ, List.set_cons_zero]
          refine wpPlan_q rfl rfl rfl ?_; intro K hK
          go_big_quiet_op
          first | go_big_quiet_on | (refine ⟨_, fun _ _ => rfl, ?_⟩; go_big_quiet_on)
          refine wpPlan_q rfl rfl rfl ?_; intro K hK
          go_big_quiet_op
          first | go_big_quiet_on | (refine ⟨_, fun _ _ => rfl, ?_⟩; go_big_quiet_on)
          refine wpPlan_q rfl rfl rfl ?_; intro K hK
          refine ⟨(.int .i64 (i : Nat)), fun W hW => ?_, ?_⟩
          · have q0 := (HXC.out W hW).1
            unfold Oper.quietAt Oper.quietUpon
            simp [go_sem, q0]
          refine hK _ ?_
          clear hK K
          try simp only [Act.put, List.setIfInBounds_toArray, List.set_cons_succ, List.set_cons_zero]
          refine wpPlan_q rfl rfl rfl ?_; intro K hK
          go_big_quiet_op
          first | go_big_quiet_on | (refine ⟨_, fun _ _ => rfl, ?_⟩; go_big_quiet_on)
          refine wpPlan_act true rfl rfl rfl ?_; intro K hK
          go_simp
          refine (HLW.out _ HB4.out.drew).mono ?_
          rintro e w5 ⟨rfl, hw5⟩
          rw [hw5]
          clear hw5 w5
          refine hK _ _ (fun _ => HB4.out.drew) ?_
          clear hK K
          try simp only [Act.put, List.setIfInBounds_toArray, List.set_cons_succ, List.set_cons_zero]
          refine wpPlan_q rfl rfl rfl ?_; intro K hK
          go_big_quiet_op
          first | go_big_quiet_on | (refine ⟨_, fun _ _ => rfl, ?_⟩; go_big_quiet_on)
          refine wpPlan_act false rfl rfl rfl ?_; intro K hK
          go_simp
          refine (HAN.out (S.foll frm) A cs _ (HX.out _ HB4.out.drew).1 ((i : Int) - 1) false).mono ?_
          rintro e w9 ⟨⟨D, d, rfl, hms⟩, hb9⟩
          have HO : Hid (OutS w g A (S.foll frm) [(S.foll frm).ans ⟨mk, frm, to, term, (i : Nat), logTerm, ents, (q : Nat), mok⟩ 4 ((i : Int) - 1) false] (.returned (.slice D 1 d)) w9) := OutS.ans ⟨A, cs, (HX.out _ HB4.out.drew).1, HM.out.2.1.trans (.of_below HB4.out.drew), fun a ha => .inl ⟨a, ha, rfl⟩⟩ hms hb9
          clear hms hb9
          refine hK _ _ (fun h => by cases h) ?_
          clear hK K
          try simp only [Act.put, List.setIfInBounds_toArray, List.set_cons_succ, List.set_cons_zero]
          refine wpPlan_p rfl rfl rfl ?_; intro K hK
          go_big_quiet_op
          first | go_big_quiet_on | (refine ⟨_, fun _ _ => rfl, ?_⟩; go_big_quiet_on)
          refine wpPlan_fin ?_
          go_wp2_with fail
          go_ret
          have h := HQ1.out
          injection h with h1 h2
          rw [h1, h2]
          exact HO.out
end Go.Proofs.Ytjodglepaeomiaa
