/- Contract of the document's append. -/
import Derived.Test.YtjodglepaeomiaaFul
namespace Go.Proofs.Ytjodglepaeomiaa
open Go.RowKit

theorem differs_at (log : List Ent) : ∀ (r : List Ent) (k j : Nat), j < differs log r k → ∀ x, r[j]? = some x → k + 1 + j ≤ log.length ∧ termAt log (k + 1 + j) = x.term
  | [], k, j, h, _, _ => by rw [differs] at h; omega
  | y :: r, k, j, h, x, hx => by
    rw [differs] at h
    by_cases hc : log.length < k + 1 ∨ termAt log (k + 1) ≠ y.term
    · rw [if_pos hc] at h; omega
    · rw [if_neg hc] at h
      cases j with
      | zero =>
        have : y = x := by simpa using hx
        subst this
        exact ⟨by have := fun h => hc (.inl h); omega, Decidable.not_not.1 (fun h => hc (.inr h))⟩
      | succ j =>
        have := differs_at log r (k + 1) j (by omega) x (by simpa using hx)
        rw [show k + 1 + (j + 1) = k + 1 + 1 + j by omega]
        exact this
theorem differs_end (log : List Ent) : ∀ (r : List Ent) (k : Nat) x, r[differs log r k]? = some x → log.length < k + 1 + differs log r k ∨ termAt log (k + 1 + differs log r k) ≠ x.term
  | [], k, x, h => by simp at h
  | y :: r, k, x, hx => by
    rw [differs] at hx ⊢
    by_cases hc : log.length < k + 1 ∨ termAt log (k + 1) ≠ y.term
    · rw [if_pos hc] at hx ⊢
      have : y = x := by simpa using hx
      subst this
      exact hc
    · rw [if_neg hc] at hx ⊢
      have := differs_end log r (k + 1) x (by simpa using hx)
      rw [show k + 1 + (differs log r (k + 1) + 1) = k + 1 + 1 + differs log r (k + 1) by omega]
      exact this
theorem differs_le' (log : List Ent) : ∀ (r : List Ent) (k : Nat), differs log r k ≤ r.length
  | [], _ => Nat.le_refl _
  | x :: r, k => by
    have := differs_le' log r (k + 1)
    rw [differs, List.length_cons]
    split <;> omega
theorem differs_log' (log : List Ent) : ∀ (r : List Ent) (k : Nat), k ≤ log.length → k + differs log r k ≤ log.length
  | [], k, h => h
  | x :: r, k, h => by
    rw [differs]
    split
    · omega
    · have h2 := differs_log' log r (k + 1) (by omega)
      omega
theorem RdL.take {α : Type} {f : α → List Value} {k : Nat} {w : World} {A : Option Addr} {l : List α} (h : RdL f k w A l) (i : Nat) : RdL f k w A (l.take i) := by
  rcases h with h | ⟨b, off, hA, hb, hat⟩
  · exact .inl (by rw [h, List.take_nil])
  · refine .inr ⟨b, off, hA, hb, fun j x hx => hat j x ?_⟩
    rw [List.getElem?_take] at hx
    split at hx
    · exact hx
    · cases hx
theorem Rel.foll {S : Sv} {V : List Bool} {P : List (Nat × Nat)} (h : S.role = 0) : Rel S V P := ⟨fun e => by omega, fun e => by omega⟩

set_option maxRecDepth 100000 in
set_option maxHeartbeats 16000000 in
theorem append_r (S : Sv) (m : Mg) (g i q : Nat) (A E : Option Addr) (cs c : Nat) (V : List Bool) (P : List (Nat × Nat)) (w : World) (hS : RvM w g S A cs V P) (hr : Rel S V P) (hok : S.Good) (hrd : RdE w E m.ents) (hE : ∀ a, E = some a → m.ents ≠ [] → a.block ≠ g) (hnc : m.ents.length ≤ c) (hE0 : E = none → c = 0)
    (hi : m.index = (i : Nat)) (hq : m.commit = (q : Nat)) (hi9 : i + m.ents.length ≤ 4096) :
    Calls Try.prog 77 #[.pointer (some ⟨g, 0, none⟩), .agg (mcell E c m).toArray] w (OutR w g A (S.appended m).1 (S.appended m).2) := by
  have HK := Lib.hid (And.intro hok hr)
  have HQ := Lib.hid (show S.appended m = (if m.term < S.term then (S, [S.ans m 4 0 false]) else if S.role = 2 then (S, [])
  else if (S.log.length : Int) < m.index ∨ termAt S.log m.index.toNat ≠ m.logTerm then (S.foll m.frm, [S.ans m 4 (min (S.log.length : Int) (m.index - 1)) false])
  else if differs S.log m.ents m.index.toNat < m.ents.length then
    (if m.index.toNat + differs S.log m.ents m.index.toNat < S.commit then (S.foll m.frm, [])
    else ({ S.foll m.frm with log := S.log.take (m.index.toNat + differs S.log m.ents m.index.toNat) ++ m.ents.drop (differs S.log m.ents m.index.toNat), commit := max S.commit (min m.commit.toNat (m.index.toNat + m.ents.length)) },
      [S.ans m 4 ((m.index.toNat + m.ents.length : Nat) : Int) true]))
  else ({ S.foll m.frm with commit := max S.commit (min m.commit.toNat (m.index.toNat + m.ents.length)) }, [S.ans m 4 ((m.index.toNat + m.ents.length : Nat) : Int) true])) from rfl)
  obtain ⟨S', ms, hq'⟩ : ∃ (S' : Sv) (ms : List Mg), S.appended m = (S', ms) := ⟨_, _, rfl⟩
  rw [hq'] at HQ ⊢
  clear hq'
  dsimp only
  obtain ⟨mk, frm, to, term, index, logTerm, ents, commit, mok⟩ := m
  dsimp only [mcell] at HQ hi hq hrd hE hnc hi9 ⊢
  subst hi
  subst hq
  rw [Int.toNat_natCast, Int.toNat_natCast] at HQ
  have HAN := Lib.hid (fun (S1 : Sv) (A1 : Option Addr) c1 W (h : RvM W g S1 A1 c1 V P) (ix : Int) ok => back_any S1 ⟨mk, frm, to, term, (i : Nat), logTerm, ents, (q : Nat), mok⟩ g A1 E c1 c 4 ix ok V P W h)
  dsimp only [mcell] at HAN
  obtain ⟨n, hn⟩ : ∃ z, z = ents.length := ⟨_, rfl⟩
  have HNN := Lib.hid hn
  rw [← hn] at HQ HAN hnc hi9 ⊢
  have HE := Lib.hid (And.intro hE hE0)
  clear hn hE hE0
  have HBX : Hid (Below w.heap.size w (w.alloc (.cells #[.int .u8 (mk : Nat), .int .i64 frm, .int .i64 to, .int .i64 term, .int .i64 (i : Nat), .int .i64 logTerm, .slice E n c, .int .i64 (q : Nat), .bool mok] 34)) ∧ Blk (w.alloc (.cells #[.int .u8 (mk : Nat), .int .i64 frm, .int .i64 to, .int .i64 term, .int .i64 (i : Nat), .int .i64 logTerm, .slice E n c, .int .i64 (q : Nat), .bool mok] 34)) w.heap.size 34 #[.int .u8 (mk : Nat), .int .i64 frm, .int .i64 to, .int .i64 term, .int .i64 (i : Nat), .int .i64 logTerm, .slice E n c, .int .i64 (q : Nat), .bool mok]) := ⟨(Below.refl _ w).alloc (Nat.le_refl _) _, Blk.new _ _ _⟩
  have hsz : (w.alloc (.cells #[.int .u8 (mk : Nat), .int .i64 frm, .int .i64 to, .int .i64 term, .int .i64 (i : Nat), .int .i64 logTerm, .slice E n c, .int .i64 (q : Nat), .bool mok] 34)).heap.size = w.heap.size + 1 := by simp
  have HS := Lib.hid (hS.below HBX.out.1)
  have hbg : ¬ w.heap.size = g := by have := hS.lt; omega
  have HRD := Lib.hid (hrd.below HBX.out.1)
  obtain ⟨l, hll⟩ : ∃ l, l = S.log.length := ⟨_, rfl⟩
  obtain ⟨cm, hcm⟩ : ∃ l, l = S.commit := ⟨_, rfl⟩
  have hl : l ≤ 4096 := by rw [hll]; exact hok.len
  have HN := Lib.hid (And.intro hll hcm)
  have hcml : cm ≤ l := by rw [hll, hcm]; exact hok.com
  clear hS hok hrd hll hcm hr
  go_enter Try.func77, Try.ntmps77
  go_wp2_with fail
  generalize w.alloc (.cells #[.int .u8 (mk : Nat), .int .i64 frm, .int .i64 to, .int .i64 term, .int .i64 (i : Nat), .int .i64 logTerm, .slice E n c, .int .i64 (q : Nat), .bool mok] 34) = w0 at *
  have x1 : w0.cell? ⟨w.heap.size, 1, none⟩ = some (.int .i64 frm) := HBX.out.2.cell 1
  have x3 : w0.cell? ⟨w.heap.size, 3, none⟩ = some (.int .i64 term) := HBX.out.2.cell 3
  have x4 : w0.cell? ⟨w.heap.size, 4, none⟩ = some (.int .i64 (i : Nat)) := HBX.out.2.cell 4
  have x5 : w0.cell? ⟨w.heap.size, 5, none⟩ = some (.int .i64 logTerm) := HBX.out.2.cell 5
  have x6 : w0.cell? ⟨w.heap.size, 6, none⟩ = some (.slice E n c) := HBX.out.2.cell 6
  have x7 : w0.cell? ⟨w.heap.size, 7, none⟩ = some (.int .i64 (q : Nat)) := HBX.out.2.cell 7
  have c2 := HS.out.c2
  have c5 := HS.out.c5
  by_cases ht : term < S.term
  · have d1 : decide (term < S.term) = true := decide_eq_true ht
    have HQ1 : Hid ((S', ms) = (S, [S.ans ⟨mk, frm, to, term, (i : Nat), logTerm, ents, (q : Nat), mok⟩ 4 0 false])) := Lib.hid (by rw [HQ.out, if_pos ht])
    clear HQ
    go_quiet (fail)
    go_wp2_with (first | (refine wpList_load_row rfl 34 _ rfl w.heap.size rfl 34 #[.int .u8 (mk : Nat), .int .i64 frm, .int .i64 to, .int .i64 term, .int .i64 (i : Nat), .int .i64 logTerm, .slice E n c, .int .i64 (q : Nat), .bool mok] (0, 0) _ (HBX.out.2.drewN _) Try.underlying34 rfl (by kernel_rfl) ?_) | fail)
    refine (HAN.out S A cs _ (HS.out.drewN _) (0) false).mono ?_
    rintro e w9 ⟨⟨D, d, rfl, hms⟩, hb9⟩
    have HO : Hid (OutR w g A S [S.ans ⟨mk, frm, to, term, (i : Nat), logTerm, ents, (q : Nat), mok⟩ 4 (0) false] (.returned (.slice D 1 d)) w9) := OutR.ans ⟨A, cs, HS.out.drewN _, .of_below (below_drewN HBX.out.1 _), fun a ha => .inl ⟨a, ha, rfl⟩⟩ HK.out.2 hms hb9
    clear hms hb9
    go_wp2_with fail
    go_ret
    have h := HQ1.out
    injection h with h1 h2
    rw [h1, h2]
    exact HO.out
  · have d1 : decide (term < S.term) = false := decide_eq_false ht
    by_cases hr : S.role = 2
    · have b1 : ((S.role : Int) == 2) = true := by rw [hr]; rfl
      have HQ1 : Hid ((S', ms) = (S, [])) := Lib.hid (by rw [HQ.out, if_neg ht, if_pos hr])
      clear HQ
      go_quiet (fail)
      go_wp2_with fail
      go_ret
      have h := HQ1.out
      injection h with h1 h2
      rw [h1, h2]
      exact OutR.nil ⟨A, cs, HS.out.drewN _, .of_below (below_drewN HBX.out.1 _), fun a ha => .inl ⟨a, ha, rfl⟩⟩ HK.out.2
    · have b1 : ((S.role : Int) == 2) = false := by simp; omega
      have hNT : Hid (S.term ≤ term) := Lib.hid (by omega)
      have hNR := Lib.hid hr
      have f5 : ∀ N, (w0.drewN N).frozen? ⟨g, 5, none⟩ = false := fun N => (HS.out.drewN N).top.frozen 5
      have f6 : ∀ N, (w0.drewN N).frozen? ⟨g, 6, none⟩ = false := fun N => (HS.out.drewN N).top.frozen 6
      have c6 := HS.out.c6
      go_quiet (fail)
      go_wp2_with fail
      have s5 := (HS.out.drewN nq).set (S' := { S with role := 0 }) 5 (.int .u8 0) rfl HS.out.vl HS.out.pl rfl
      have s6 := s5.1.set (S' := S.foll frm) 6 (.int .i64 frm) rfl HS.out.vl HS.out.pl rfl
      have hch := ((Chg.refl (fun b => b = g) w0).drewN nq).trans (s5.2.trans s6.2)
      have hM : RvM (((w0.drewN nq).setCell ⟨g, 5, none⟩ (.int .u8 0)).setCell ⟨g, 6, none⟩ (.int .i64 frm)) g (S.foll frm) A cs V P ∧ Chg (SvT g A) w (((w0.drewN nq).setCell ⟨g, 5, none⟩ (.int .u8 0)).setCell ⟨g, 6, none⟩ (.int .i64 frm)) ∧ Blk (((w0.drewN nq).setCell ⟨g, 5, none⟩ (.int .u8 0)).setCell ⟨g, 6, none⟩ (.int .i64 frm)) w.heap.size 34 #[.int .u8 (mk : Nat), .int .i64 frm, .int .i64 to, .int .i64 term, .int .i64 (i : Nat), .int .i64 logTerm, .slice E n c, .int .i64 (q : Nat), .bool mok] ∧ RdE (((w0.drewN nq).setCell ⟨g, 5, none⟩ (.int .u8 0)).setCell ⟨g, 6, none⟩ (.int .i64 frm)) E ents :=
        ⟨s6.1, (Chg.of_below HBX.out.1).trans (hch.mono (fun b hb => .inl hb)), HBX.out.2.chg hch (fun h => hbg h), HRD.out.chg hch (fun a ha hne he => HE.out.1 a ha hne he)⟩
      have HM := Lib.hid hM
      clear hM s5 s6 hch c2 c5 c6 f5 f6 b1 d1 x1 x3 x4 x5 x6 x7 hr ht
      generalize ((w0.drewN nq).setCell ⟨g, 5, none⟩ (.int .u8 0)).setCell ⟨g, 6, none⟩ (.int .i64 frm) = w3 at *
      have HX : Hid (∀ W, Below w3.heap.size w3 W → RvM W g (S.foll frm) A cs V P ∧ Blk W w.heap.size 34 #[.int .u8 (mk : Nat), .int .i64 frm, .int .i64 to, .int .i64 term, .int .i64 (i : Nat), .int .i64 logTerm, .slice E n c, .int .i64 (q : Nat), .bool mok] ∧ RdE W E ents) := Lib.hid (fun W hW => ⟨HM.out.1.below hW, HM.out.2.2.1.below hW HM.out.2.2.1.lt, HM.out.2.2.2.below hW⟩)
      have HXC : Hid (∀ W, Below w3.heap.size w3 W → W.cell? ⟨w.heap.size, 4, none⟩ = some (.int .i64 (i : Nat)) ∧ W.cell? ⟨w.heap.size, 6, none⟩ = some (.slice E n c) ∧ W.heap[w.heap.size]? = some (.cells #[.int .u8 (mk : Nat), .int .i64 frm, .int .i64 to, .int .i64 term, .int .i64 (i : Nat), .int .i64 logTerm, .slice E n c, .int .i64 (q : Nat), .bool mok] 34 (0, 0)) ∧ W.cell? ⟨g, 4, none⟩ = some (.slice A l cs) ∧ W.cell? ⟨g, 7, none⟩ = some (.int .i64 (cm : Nat))) := Lib.hid (fun W hW => ⟨(HX.out W hW).2.1.cell 4, (HX.out W hW).2.1.cell 6, (HX.out W hW).2.1, by rw [HN.out.1]; exact (HX.out W hW).1.c4, by rw [HN.out.2]; exact (HX.out W hW).1.c7⟩)
      have x4 := (HXC.out w3 (Below.refl _ _)).1
      have x5 : w3.cell? ⟨w.heap.size, 5, none⟩ = some (.int .i64 logTerm) := HM.out.2.2.1.cell 5
      have c4 := (HXC.out w3 (Below.refl _ _)).2.2.2.1
      have hRL : Hid (Rel (S.foll frm) V P) := Lib.hid (Rel.foll rfl)
      clear HS HBX HRD
      by_cases hil : l < i
      · have e1 : decide ((l : Int) < (i : Int)) = true := decide_eq_true (by omega)
        have e2 : (l : Int) ≤ (i : Int) - 1 := by omega
        have HQ1 : Hid ((S', ms) = (S.foll frm, [(S.foll frm).ans ⟨mk, frm, to, term, (i : Nat), logTerm, ents, (q : Nat), mok⟩ 4 ((l : Nat) : Int) false])) := Lib.hid (by
          rw [HQ.out, if_neg (Int.not_lt.mpr hNT.out), if_neg hNR.out, if_pos (.inl (by rw [← HN.out.1]; omega)), show min (S.log.length : Int) ((i : Int) - 1) = ((l : Nat) : Int) by rw [← HN.out.1]; omega]; rfl)
        clear HQ
        go_quiet (fail)
        have HB4 := Lib.hid (below_drewN (Below.refl w3.heap.size w3) nq)
        generalize w3.drewN nq = w4 at *
        clear x4 x5 c4
        go_wp2_with fail
        refine wp_region_plan (.q 0 (.q 1 (.q 2 (.q 3 (.q 4 (.q 5 (.q 6 (.q 7 (.q 8 (.q 9 (.q 10 (.q 11 (.a1 12 (.q 13 .fin)))))))))))))) 12 (fun W => Below w3.heap.size w3 W) (by kernel_rfl) rfl (by kernel_rfl) HB4.out.drew ?_
        refine wpPlan_q rfl rfl rfl ?_; intro K hK
        go_big_quiet_op
        first | go_big_quiet_on | (refine ⟨_, fun _ _ => rfl, ?_⟩; go_big_quiet_on)
        refine wpPlan_q rfl rfl rfl ?_; intro K hK
        refine quiet_load_row 34 (.tmp 3) rfl w.heap.size rfl 34 #[.int .u8 (mk : Nat), .int .i64 frm, .int .i64 to, .int .i64 term, .int .i64 (i : Nat), .int .i64 logTerm, .slice E n c, .int .i64 (q : Nat), .bool mok] (0, 0) _ (fun W hW => (HXC.out W hW).2.2.1) Try.underlying34 rfl (by kernel_rfl) ?_
        refine hK _ ?_
        clear hK K
        try simp only [Act.put, List.setIfInBounds_toArray, List.set_cons_succ, List.set_cons_zero]
        refine wpPlan_q rfl rfl rfl ?_; intro K hK
        go_big_quiet_op
        first | go_big_quiet_on | (refine ⟨_, fun _ _ => rfl, ?_⟩; go_big_quiet_on)
        refine wpPlan_q rfl rfl rfl ?_; intro K hK
        go_big_quiet_op
        first | go_big_quiet_on | (refine ⟨_, fun _ _ => rfl, ?_⟩; go_big_quiet_on)
        refine wpPlan_q rfl rfl rfl ?_; intro K hK
        go_big_quiet_op
        first | go_big_quiet_on | (refine ⟨_, fun _ _ => rfl, ?_⟩; go_big_quiet_on)
        refine wpPlan_q rfl rfl rfl ?_; intro K hK
        go_big_quiet_op
        first | go_big_quiet_on | (refine ⟨_, fun _ _ => rfl, ?_⟩; go_big_quiet_on)
        refine wpPlan_q rfl rfl rfl ?_; intro K hK
        refine ⟨(.slice A l cs), fun W hW => ?_, ?_⟩
        · have q0 := (HXC.out W hW).2.2.2.1
          unfold Oper.quietAt Oper.quietUpon
          simp [go_sem, q0]
        refine hK _ ?_
        clear hK K
        try simp only [Act.put, List.setIfInBounds_toArray, List.set_cons_succ, List.set_cons_zero]
        refine wpPlan_q rfl rfl rfl ?_; intro K hK
        go_big_quiet_op
        first | go_big_quiet_on | (refine ⟨_, fun _ _ => rfl, ?_⟩; go_big_quiet_on)
        refine wpPlan_q rfl rfl rfl ?_; intro K hK
        go_big_quiet_op
        first | go_big_quiet_on | (refine ⟨_, fun _ _ => rfl, ?_⟩; go_big_quiet_on)
        refine wpPlan_q rfl rfl rfl ?_; intro K hK
        refine ⟨(.int .i64 (i : Nat)), fun W hW => ?_, ?_⟩
        · have q0 := (HXC.out W hW).1
          unfold Oper.quietAt Oper.quietUpon
          simp [go_sem, q0]
        refine hK _ ?_
        clear hK K
        try simp only [Act.put, List.setIfInBounds_toArray, List.set_cons_succ, List.set_cons_zero]
        refine wpPlan_q rfl rfl rfl ?_; intro K hK
        go_big_quiet_op
        first | go_big_quiet_on | (refine ⟨_, fun _ _ => rfl, ?_⟩; go_big_quiet_on)
        refine wpPlan_q rfl rfl rfl ?_; intro K hK
        go_big_quiet_op
        first | go_big_quiet_on | (refine ⟨_, fun _ _ => rfl, ?_⟩; go_big_quiet_on)
        refine wpPlan_act false rfl rfl rfl ?_; intro K hK
        go_simp
        refine (HAN.out (S.foll frm) A cs _ (HX.out _ HB4.out.drew).1 ((l : Nat)) false).mono ?_
        rintro e w9 ⟨⟨D, d, rfl, hms⟩, hb9⟩
        have HO : Hid (OutR w g A (S.foll frm) [(S.foll frm).ans ⟨mk, frm, to, term, (i : Nat), logTerm, ents, (q : Nat), mok⟩ 4 ((l : Nat)) false] (.returned (.slice D 1 d)) w9) := OutR.ans ⟨A, cs, (HX.out _ HB4.out.drew).1, HM.out.2.1.trans (.of_below HB4.out.drew), fun a ha => .inl ⟨a, ha, rfl⟩⟩ hRL.out hms hb9
        clear hms hb9
        refine hK _ _ (fun h => by cases h) ?_
        clear hK K
        try simp only [Act.put, List.setIfInBounds_toArray, List.set_cons_succ, List.set_cons_zero]
        refine wpPlan_p rfl rfl rfl ?_; intro K hK
        go_big_quiet_op
        first | go_big_quiet_on | (refine ⟨_, fun _ _ => rfl, ?_⟩; go_big_quiet_on)
        refine wpPlan_fin ?_
        go_wp2_with fail
        go_ret
        have h := HQ1.out
        injection h with h1 h2
        rw [h1, h2]
        exact HO.out
      · have e1 : decide ((l : Int) < (i : Int)) = false := decide_eq_false (by omega)
        have HT : Hid (∀ W, Below w3.heap.size w3 W → Calls Try.prog 73 #[.pointer (some ⟨g, 0, none⟩), .int .i64 (i : Nat)] W fun e w' => e = .returned (.int .i64 (termAt S.log i)) ∧ w' = W) := Lib.hid (fun W hW => termat_any (HX.out W hW).1 i (by show i ≤ S.log.length; rw [← HN.out.1]; omega) (by show S.log.length ≤ _; rw [← HN.out.1]; omega))
        obtain ⟨T, hT⟩ : ∃ z, z = termAt S.log i := ⟨_, rfl⟩
        rw [← hT] at HT HQ
        clear hT
        by_cases htm : T = logTerm
        · have b2 : (T != logTerm) = false := by simp [htm]
          have HQ1 : Hid ((S', ms) = (if differs S.log ents i < n then
    (if i + differs S.log ents i < cm then (S.foll frm, [])
    else ({ S.foll frm with log := S.log.take (i + differs S.log ents i) ++ ents.drop (differs S.log ents i), commit := max cm (min q (i + n)) },
      [S.ans ⟨mk, frm, to, term, (i : Nat), logTerm, ents, (q : Nat), mok⟩ 4 ((i + n : Nat) : Int) true]))
  else ({ S.foll frm with commit := max cm (min q (i + n)) }, [S.ans ⟨mk, frm, to, term, (i : Nat), logTerm, ents, (q : Nat), mok⟩ 4 ((i + n : Nat) : Int) true]))) := Lib.hid (by
            rw [HQ.out, if_neg (Int.not_lt.mpr hNT.out), if_neg hNR.out, if_neg (fun h => h.elim (fun h => by rw [← HN.out.1] at h; omega) (fun h => h htm)), HN.out.2])
          clear HQ htm
          go_quiet (refine Calls.quiet_of_same (HT.out _ (below_drewN (Below.refl _ _) _)))
          have HB4 := Lib.hid (below_drewN (Below.refl w3.heap.size w3) nq)
          generalize w3.drewN nq = w4 at *
          have hd1 := differs_le' S.log ents i
          have hd2 := differs_log' S.log ents i (by rw [← HN.out.1]; omega)
          have hd3 := differs_at S.log ents i
          have hd4 := differs_end S.log ents i
          rw [← HNN.out] at hd1
          rw [← HN.out.1] at hd2
          obtain ⟨df, hdf⟩ : ∃ z, z = differs S.log ents i := ⟨_, rfl⟩
          rw [← hdf] at HQ1 hd1 hd2 hd3 hd4
          have HD3 := Lib.hid (And.intro hd3 hd4)
          clear hdf HT x4 x5 c4 b2 e1 hNT hd3 hd4
          by_cases hbad : df < n ∧ i + df < cm
          · have HQ2 : Hid ((S', ms) = (S.foll frm, [])) := Lib.hid (by rw [HQ1.out, if_pos hbad.1, if_pos hbad.2])
            obtain ⟨hb1, hb2⟩ := hbad
            clear HQ1
            go_wp2_with fail
            go_loopw [5] (fun s5 wr => ∃ k : Nat, s5 = .int .i64 (k : Nat) ∧ k ≤ df ∧ Below w3.heap.size w3 wr) (fun s5 _ => n - (intOf s5).toNat)
            case atStart => exact ⟨0, rfl, by omega, HB4.out⟩
            case round =>
              obtain ⟨k, rfl, hk, hb⟩ := hrel
              have HB := Lib.hid hb
              obtain ⟨x4, x6, _, c4, c7⟩ := HXC.out wr hb
              clear hb
              by_cases hlt : k < n
              · have hkl : k < ents.length := by rw [← HNN.out]; exact hlt
                obtain ⟨x, hx⟩ : ∃ x, ents[k]? = some x := ⟨_, List.getElem?_eq_getElem hkl⟩
                have HDX := Lib.hid (And.intro (HD3.out.1 k) (And.intro HD3.out.2 hx))
                obtain ⟨b, off, hEe, hbl, e0, e1⟩ := (HX.out wr HB.out).2.2.ents hx
                subst hEe
                have hk0 : (0 : Int) ≤ (k : Int) := by omega
                have hkn : (k : Int) < (n : Int) := by omega
                have hd1 : decide ((k : Int) < (n : Int)) = true := decide_eq_true hkn
                obtain ⟨t, dt⟩ := x
                dsimp only at e0 e1
                clear hx
                by_cases hkd : k = df
                · subst hkd
                  have HT : Hid (∀ W, Below w3.heap.size w3 W → Calls Try.prog 73 #[.pointer (some ⟨g, 0, none⟩), .int .i64 ((i : Int) + 1 + (k : Int))] W fun e w' => e = .returned (.int .i64 (termAt S.log (i + 1 + k))) ∧ w' = W) := Lib.hid (fun W hW => by rw [show (i : Int) + 1 + (k : Int) = ((i + 1 + k : Nat) : Int) by omega]; exact termat_any (HX.out W hW).1 (i + 1 + k) (by show i + 1 + k ≤ S.log.length; rw [← HN.out.1]; omega) (by show S.log.length ≤ _; rw [← HN.out.1]; omega))
                  have dq : decide ((i : Int) + 1 + (k : Int) ≤ (cm : Int)) = true := decide_eq_true (by omega)
                  have hT : termAt S.log (i + 1 + k) ≠ t := by
                      have h := HDX.out.2.1 _ HDX.out.2.2
                      exact h.elim (fun h => by rw [← HN.out.1] at h; omega) id
                  generalize termAt S.log (i + 1 + k) = T at *
                  have db : (T != t) = true := by simp [hT]
                  clear hT HDX
                  go_wp2_with fail
                  go_quiet (refine Calls.quiet_of_same (HT.out _ (below_drewN HB.out _)))
                  go_wp2_with fail
                  go_ret
                  have h := HQ2.out
                  injection h with h1 h2
                  rw [h1, h2]
                  exact OutR.nil ⟨_, cs, (HX.out _ (below_drewN HB.out _)).1, HM.out.2.1.trans (.of_below (below_drewN HB.out _)), fun a ha => .inl ⟨a, ha, rfl⟩⟩ hRL.out
                · have hkd' : k < df := by omega
                  clear hkd
                  have HT : Hid (∀ W, Below w3.heap.size w3 W → Calls Try.prog 73 #[.pointer (some ⟨g, 0, none⟩), .int .i64 ((i : Int) + 1 + (k : Int))] W fun e w' => e = .returned (.int .i64 (termAt S.log (i + 1 + k))) ∧ w' = W) := Lib.hid (fun W hW => by rw [show (i : Int) + 1 + (k : Int) = ((i + 1 + k : Nat) : Int) by omega]; exact termat_any (HX.out W hW).1 (i + 1 + k) (by show i + 1 + k ≤ S.log.length; rw [← HN.out.1]; omega) (by show S.log.length ≤ _; rw [← HN.out.1]; omega))
                  have dq : decide ((i : Int) + 1 + (k : Int) ≤ (cm : Int)) = true := decide_eq_true (by omega)
                  have hT : termAt S.log (i + 1 + k) = t := (HDX.out.1 (by have := HDX.out; omega) _ HDX.out.2.2).2
                  generalize termAt S.log (i + 1 + k) = T at *
                  have db : (T != t) = false := by simp [hT]
                  clear hT HDX
                  go_wp2_with fail
                  go_quiet (refine Calls.quiet_of_same (HT.out _ (below_drewN HB.out _)))
                  go_wp2_with fail
                  go_roundw
                  case rel => exact ⟨k + 1, by go_num, by omega, below_drewN HB.out _⟩
                  case measure => simp [intOf]; omega
              · exact absurd hlt (by omega)
          · have hg1 : df < n → cm ≤ i + df := fun h => by omega
            have HGD := Lib.hid hg1
            clear hg1 hbad
            go_wp2_with fail
            go_loopw [5] (fun s5 wr => ∃ k : Nat, s5 = .int .i64 (k : Nat) ∧ k ≤ n ∧ Below w3.heap.size w3 wr) (fun s5 _ => n - (intOf s5).toNat)
            case atStart => exact ⟨0, rfl, by omega, HB4.out⟩
            case round =>
              obtain ⟨k, rfl, hk, hb⟩ := hrel
              have HB := Lib.hid hb
              obtain ⟨x4, x6, _, c4, c7⟩ := HXC.out wr hb
              clear hb
              by_cases hlt : k < n
              · have hkl : k < ents.length := by rw [← HNN.out]; exact hlt
                obtain ⟨x, hx⟩ : ∃ x, ents[k]? = some x := ⟨_, List.getElem?_eq_getElem hkl⟩
                have HDX := Lib.hid (And.intro (HD3.out.1 k) (And.intro HD3.out.2 hx))
                obtain ⟨b, off, hEe, hbl, e0, e1⟩ := (HX.out wr HB.out).2.2.ents hx
                subst hEe
                have hk0 : (0 : Int) ≤ (k : Int) := by omega
                have hkn : (k : Int) < (n : Int) := by omega
                have hd1 : decide ((k : Int) < (n : Int)) = true := decide_eq_true hkn
                obtain ⟨t, dt⟩ := x
                dsimp only at e0 e1
                clear hx
                by_cases hcc : i + 1 + k ≤ cm
                · have hkd : k < df := by have := HGD.out; omega
                  have HT : Hid (∀ W, Below w3.heap.size w3 W → Calls Try.prog 73 #[.pointer (some ⟨g, 0, none⟩), .int .i64 ((i : Int) + 1 + (k : Int))] W fun e w' => e = .returned (.int .i64 (termAt S.log (i + 1 + k))) ∧ w' = W) := Lib.hid (fun W hW => by rw [show (i : Int) + 1 + (k : Int) = ((i + 1 + k : Nat) : Int) by omega]; exact termat_any (HX.out W hW).1 (i + 1 + k) (by show i + 1 + k ≤ S.log.length; rw [← HN.out.1]; omega) (by show S.log.length ≤ _; rw [← HN.out.1]; omega))
                  have dq : decide ((i : Int) + 1 + (k : Int) ≤ (cm : Int)) = true := decide_eq_true (by omega)
                  have hT : termAt S.log (i + 1 + k) = t := (HDX.out.1 (by have := HDX.out; have := HGD.out; omega) _ HDX.out.2.2).2
                  generalize termAt S.log (i + 1 + k) = T at *
                  have db : (T != t) = false := by simp [hT]
                  clear hT HDX
                  go_wp2_with fail
                  go_quiet (refine Calls.quiet_of_same (HT.out _ (below_drewN HB.out _)))
                  go_wp2_with fail
                  go_roundw
                  case rel => exact ⟨k + 1, by go_num, by omega, below_drewN HB.out _⟩
                  case measure => simp [intOf]; omega
                · have dq : decide ((i : Int) + 1 + (k : Int) ≤ (cm : Int)) = false := decide_eq_false (by omega)
                  clear HDX
                  go_wp2_with fail
                  go_quiet (fail)
                  go_wp2_with fail
                  go_roundw
                  case rel => exact ⟨k + 1, by go_num, by omega, below_drewN HB.out _⟩
                  case measure => simp [intOf]; omega
              · have hd1 : decide ((k : Int) < (n : Int)) = false := decide_eq_false (by omega)
                go_wp2_with fail
                clear x4 x6 c4 c7
                go_loopw [7] (fun s7 wr => ∃ k : Nat, s7 = .int .i64 (k : Nat) ∧ k ≤ df ∧ Below w3.heap.size w3 wr) (fun s7 _ => n - (intOf s7).toNat)
                case atStart => exact ⟨0, rfl, by omega, HB.out⟩
                case round =>
                  clear HB hk hlt hd1
                  obtain ⟨k, rfl, hk, hb⟩ := hrel
                  have HB := Lib.hid hb
                  obtain ⟨x4, x6, _, c4, c7⟩ := HXC.out wr hb
                  clear hb
                  by_cases hlt : k < n
                  · have hkl : k < ents.length := by rw [← HNN.out]; exact hlt
                    obtain ⟨x, hx⟩ : ∃ x, ents[k]? = some x := ⟨_, List.getElem?_eq_getElem hkl⟩
                    have HDX := Lib.hid (And.intro (HD3.out.1 k) (And.intro HD3.out.2 hx))
                    obtain ⟨b, off, hEe, hbl, e0, e1⟩ := (HX.out wr HB.out).2.2.ents hx
                    subst hEe
                    have hk0 : (0 : Int) ≤ (k : Int) := by omega
                    have hkn : (k : Int) < (n : Int) := by omega
                    have hd1 : decide ((k : Int) < (n : Int)) = true := decide_eq_true hkn
                    obtain ⟨t, dt⟩ := x
                    dsimp only at e0 e1
                    clear hx
                    by_cases hkd : k < df
                    · have hT : termAt S.log (i + 1 + k) = t := (HDX.out.1 hkd _ HDX.out.2.2).2
                      have hkl2 : i + 1 + k ≤ l := by have := (HDX.out.1 hkd _ HDX.out.2.2).1; rw [← HN.out.1] at this; exact this
                      have HT : Hid (∀ W, Below w3.heap.size w3 W → Calls Try.prog 73 #[.pointer (some ⟨g, 0, none⟩), .int .i64 ((i : Int) + 1 + (k : Int))] W fun e w' => e = .returned (.int .i64 (termAt S.log (i + 1 + k))) ∧ w' = W) := Lib.hid (fun W hW => by rw [show (i : Int) + 1 + (k : Int) = ((i + 1 + k : Nat) : Int) by omega]; exact termat_any (HX.out W hW).1 (i + 1 + k) (by show i + 1 + k ≤ S.log.length; rw [← HN.out.1]; omega) (by show S.log.length ≤ _; rw [← HN.out.1]; omega))
                      have dq : decide ((l : Int) < (i : Int) + 1 + (k : Int)) = false := decide_eq_false (by omega)
                      generalize termAt S.log (i + 1 + k) = T at *
                      have db : (T != t) = false := by simp [hT]
                      clear hT HDX
                      go_wp2_with fail
                      go_quiet (refine Calls.quiet_of_same (HT.out _ (below_drewN HB.out _)))
                      go_wp2_with fail
                      go_roundw
                      case rel => exact ⟨k + 1, by go_num, by omega, below_drewN HB.out _⟩
                      case measure => simp [intOf]; omega
                    · obtain rfl : k = df := by omega
                      clear hkd
                      by_cases hfar : l < i + 1 + k
                      · have dq : decide ((l : Int) < (i : Int) + 1 + (k : Int)) = true := decide_eq_true (by omega)
                        clear HDX
                        go_wp2_with fail
                        go_quiet (fail)
                        have HB5 : Hid (Below w3.heap.size w3 (wr.drewN nq)) := Lib.hid (below_drewN HB.out _)
                        generalize wr.drewN nq = w5 at *
                        clear x4 x6 c4 c7 e0 e1 HB
                        have c4 := (HXC.out w5 HB5.out).2.2.2.1
                        have x6 := (HXC.out w5 HB5.out).2.1
                        have hcs : i + k ≤ cs := by have := HM.out.1.cap; have h2 : (S.foll frm).log.length = l := HN.out.1.symm; rw [h2] at this; omega
                        have hslC : (0 : Int) ≤ (i : Int) + 1 + (k : Int) - 1 := by omega
                        have hslD : ((i : Int) + 1 + (k : Int) - 1).toNat = i + k := by omega
                        have hslE : (i : Int) + 1 + (k : Int) - 1 ≤ (cs : Int) := by omega
                        have hsn : (n : Int) ≤ (c : Int) := by omega
                        have HCP : Hid (Calls Try.prog 57 #[.slice A (i + k) cs] w5 (ClonePost w5 (S.log.take (i + k)))) := by
                          have hl2 : (S.log.take (i + k)).length = i + k := by rw [List.length_take, ← HN.out.1]; omega
                          have h := copied_any A cs (S.log.take (i + k)) w5 ((HX.out _ HB5.out).1.rd.take _) (by rw [hl2]; omega)
                          rw [hl2] at h
                          exact Lib.hid h
                        go_wp2_with fail
                        refine HCP.out.mono ?_
                        rintro e w6 ⟨⟨A6, c6, rfl, ho6⟩, hb6⟩
                        have hl2 : (S.log.take (i + k)).length = i + k := by rw [List.length_take, ← HN.out.1]; omega
                        rw [hl2] at ho6 ⊢
                        have H6 := Lib.hid (And.intro ho6 hb6)
                        clear ho6 hb6 hl2 c4 x6 HCP
                        have x6 := (HXC.out w6 (HB5.out.trans (H6.out.2.mono HB5.out.size))).2.1
                        have HR1 : Hid (Reads w6 w6.heap.size 2 (some ⟨b, off + k * 2, none⟩) (n - k) (rowOf ecell (ents.drop k))) := by
                          have h1 := (HX.out w6 (HB5.out.trans (H6.out.2.mono HB5.out.size))).2.2
                          have h2 := (h1.cut k ents.length).reads ecell_len
                          rw [List.take_length, List.length_drop, ← HNN.out] at h2
                          exact Lib.hid h2
                        go_wp2_with (at_builtin; refine wpList_app_ents rfl (.tmp 138) (.tmp 142) rfl w5.heap.size (i + k) (n - k) c6 (c - k) _ A6 (some ⟨b, off + k * 2, none⟩) (S.log.take (i + k)) (ents.drop k) rfl H6.out.1 rfl HR1.out (by omega) H6.out.2.size ?_; intro A7 c7 w7 ho7 hg7 _; have H7 : Hid (w7.ownsRow w5.heap.size 39 2 (.slice A7 (i + k + (n - k)) c7) (i + k + (n - k)) (rowOf ecell (S.log.take (i + k) ++ ents.drop k)) ∧ Below w5.heap.size w5 w7) := Lib.hid ⟨ho7, H6.out.2.grown hg7 H6.out.2.size (fun r hr => (World.ownsRow.lt H6.out.1 r hr).1)⟩; clear ho7 hg7; have c4 := (HXC.out w7 (HB5.out.trans (H7.out.2.mono HB5.out.size))).2.2.2.1; have f4 : w7.frozen? ⟨g, 4, none⟩ = false := (HX.out w7 (HB5.out.trans (H7.out.2.mono HB5.out.size))).1.top.frozen 4; have y4 := (HXC.out w7 (HB5.out.trans (H7.out.2.mono HB5.out.size))).1; have y6 := (HXC.out w7 (HB5.out.trans (H7.out.2.mono HB5.out.size))).2.1)
                        have HQ2 : Hid ((S', ms) = ({ S.foll frm with log := S.log.take (i + k) ++ ents.drop k, commit := max cm (min q (i + n)) },
                              [S.ans ⟨mk, frm, to, term, (i : Nat), logTerm, ents, (q : Nat), mok⟩ 4 ((i + n : Nat) : Int) true])) := Lib.hid (by rw [HQ1.out, if_pos hlt, if_neg (by have := HGD.out hlt; omega)])
                        have hL : (S.log.take (i + k) ++ ents.drop k).length = i + k + (n - k) := by rw [List.length_append, List.length_take, List.length_drop, ← HN.out.1, ← HNN.out]; omega
                        have HM5 := Lib.hid (And.intro (HX.out w5 HB5.out).1 (And.intro (HM.out.2.1.trans (.of_below HB5.out)) (HX.out w5 HB5.out).2.1))
                        have hk := HM5.out.1.renew (A' := A7) (c' := c7) (L := S.log.take (i + k) ++ ents.drop k) H7.out.2 (by rw [hL]; exact H7.out.1)
                        rw [hL] at hk
                        have hch : Chg (fun b => b = g) w5 (w7.setCell ⟨g, 4, none⟩ (.slice A7 (i + k + (n - k)) c7)) := Chg.setCell (T := fun b => b = g) (Chg.of_below H7.out.2) (p := ⟨g, 4, none⟩) rfl _
                        obtain ⟨A8, c8, hm8, hc8, ht8⟩ := KeepsR.trans HM5.out.2.1 (fun a ha => .inl ⟨a, ha, rfl⟩) hk
                        have H8 : Hid (RvM (w7.setCell ⟨g, 4, none⟩ (.slice A7 (i + k + (n - k)) c7)) g { S.foll frm with log := S.log.take (i + k) ++ ents.drop k } A8 c8 V P ∧ Chg (SvT g A) w (w7.setCell ⟨g, 4, none⟩ (.slice A7 (i + k + (n - k)) c7)) ∧ (∀ a, A8 = some a → (∃ a0, A = some a0 ∧ a.block = a0.block) ∨ w.heap.size ≤ a.block) ∧ Blk (w7.setCell ⟨g, 4, none⟩ (.slice A7 (i + k + (n - k)) c7)) w.heap.size 34 #[.int .u8 (mk : Nat), .int .i64 frm, .int .i64 to, .int .i64 term, .int .i64 (i : Nat), .int .i64 logTerm, .slice (some ⟨b, off, none⟩) n c, .int .i64 (q : Nat), .bool mok]) := Lib.hid ⟨hm8, hc8, ht8, HM5.out.2.2.chg hch (fun h => hbg h)⟩
                        clear hm8 hc8 ht8 hk hch hL H6 H7 HM5 HR1 c4 f4 y4 y6 x6 hslC hslD hslE hsn hcs
                        generalize (w7.setCell ⟨g, 4, none⟩ (.slice A7 (i + k + (n - k)) c7)) = w8 at *
                        obtain ⟨S8, hS8⟩ : ∃ z, z = { S.foll frm with log := S.log.take (i + k) ++ ents.drop k } := ⟨_, rfl⟩
                        have HQ3 : Hid ((S', ms) = ({ S8 with commit := max cm (min q (i + n)) }, [S8.ans ⟨mk, frm, to, term, (i : Nat), logTerm, ents, (q : Nat), mok⟩ 4 ((i + n : Nat) : Int) true]) ∧ S8.commit = cm ∧ S8.role = 0) := by rw [hS8]; exact Lib.hid ⟨HQ2.out, HN.out.2.symm, rfl⟩
                        rw [← hS8] at H8
                        clear hS8 HQ2 HQ1
                        have z7 : w8.cell? ⟨w.heap.size, 7, none⟩ = some (.int .i64 (q : Nat)) := H8.out.2.2.2.cell 7
                        have c7 : w8.cell? ⟨g, 7, none⟩ = some (.int .i64 (cm : Nat)) := by rw [← HQ3.out.2.1]; exact H8.out.1.c7
                        have f7 : w8.frozen? ⟨g, 7, none⟩ = false := H8.out.1.top.frozen 7
                        by_cases h1 : (q : Int) ≤ (i : Int) + (n : Int)
                        · by_cases h2 : (q : Int) ≤ (cm : Int)
                          · have hv : max cm (min q (i + n)) = cm := by omega
                            have HQ1 : Hid ((S', ms) = ({ S8 with commit := cm }, [S8.ans ⟨mk, frm, to, term, (i : Nat), logTerm, ents, (q : Nat), mok⟩ 4 ((i + n : Nat) : Int) true])) := Lib.hid (by rw [HQ3.out.1, hv])
                            clear hv
                            go_region
                            have hst := H8.out.1.set (S' := { S8 with commit := cm }) 7 (.int .i64 ((cm : Nat) : Int)) rfl H8.out.1.vl H8.out.1.pl rfl
                            have HST : Hid (RvM (w8.setCell ⟨g, 7, none⟩ (.int .i64 (cm : Int))).drew g { S8 with commit := cm } A8 c8 V P ∧ Chg (SvT g A) w (w8.setCell ⟨g, 7, none⟩ (.int .i64 (cm : Int))).drew ∧ Blk (w8.setCell ⟨g, 7, none⟩ (.int .i64 (cm : Int))).drew w.heap.size 34 #[.int .u8 (mk : Nat), .int .i64 frm, .int .i64 to, .int .i64 term, .int .i64 (i : Nat), .int .i64 logTerm, .slice (some ⟨b, off, none⟩) n c, .int .i64 (q : Nat), .bool mok]) := Lib.hid ⟨hst.1.drew, (H8.out.2.1.trans (hst.2.mono (fun b hb => .inl hb))).drewN 1, (H8.out.2.2.2.chg hst.2 (fun h => hbg h)).drewN 1⟩
                            clear hst
                            generalize (w8.setCell ⟨g, 7, none⟩ (.int .i64 (cm : Int))).drew = w10 at *
                            go_wp2_with (first | (refine wpList_load_row rfl 34 _ rfl w.heap.size rfl 34 #[.int .u8 (mk : Nat), .int .i64 frm, .int .i64 to, .int .i64 term, .int .i64 (i : Nat), .int .i64 logTerm, .slice (some ⟨b, off, none⟩) n c, .int .i64 (q : Nat), .bool mok] (0, 0) _ (HST.out.2.2) Try.underlying34 rfl (by kernel_rfl) ?_) | fail)
                            refine (HAN.out { S8 with commit := cm } A8 c8 _ HST.out.1 ((i : Int) + (n : Int)) true).mono ?_
                            rintro e w9 ⟨⟨D, d, rfl, hms⟩, hb9⟩
                            have HO : Hid (OutR w g A { S8 with commit := cm } [S8.ans ⟨mk, frm, to, term, (i : Nat), logTerm, ents, (q : Nat), mok⟩ 4 ((i : Int) + (n : Int)) true] (.returned (.slice D 1 d)) w9) := OutR.ans ⟨A8, c8, HST.out.1, HST.out.2.1, H8.out.2.2.1⟩ (Rel.foll HQ3.out.2.2) hms hb9
                            clear hms hb9
                            go_wp2_with fail
                            go_ret
                            have h := HQ1.out
                            rw [show ((i + n : Nat) : Int) = (i : Int) + (n : Int) by omega] at h
                            injection h with h1 h2
                            rw [h1, h2]
                            exact HO.out
                          · have h2' : decide ((q : Int) ≤ (cm : Int)) = false := decide_eq_false h2
                            have hv : max cm (min q (i + n)) = q := by omega
                            have HQ1 : Hid ((S', ms) = ({ S8 with commit := q }, [S8.ans ⟨mk, frm, to, term, (i : Nat), logTerm, ents, (q : Nat), mok⟩ 4 ((i + n : Nat) : Int) true])) := Lib.hid (by rw [HQ3.out.1, hv])
                            clear hv
                            go_region
                            have hst := H8.out.1.set (S' := { S8 with commit := q }) 7 (.int .i64 ((q : Nat) : Int)) rfl H8.out.1.vl H8.out.1.pl rfl
                            have HST : Hid (RvM (w8.setCell ⟨g, 7, none⟩ (.int .i64 (q : Int))).drew g { S8 with commit := q } A8 c8 V P ∧ Chg (SvT g A) w (w8.setCell ⟨g, 7, none⟩ (.int .i64 (q : Int))).drew ∧ Blk (w8.setCell ⟨g, 7, none⟩ (.int .i64 (q : Int))).drew w.heap.size 34 #[.int .u8 (mk : Nat), .int .i64 frm, .int .i64 to, .int .i64 term, .int .i64 (i : Nat), .int .i64 logTerm, .slice (some ⟨b, off, none⟩) n c, .int .i64 (q : Nat), .bool mok]) := Lib.hid ⟨hst.1.drew, (H8.out.2.1.trans (hst.2.mono (fun b hb => .inl hb))).drewN 1, (H8.out.2.2.2.chg hst.2 (fun h => hbg h)).drewN 1⟩
                            clear hst
                            generalize (w8.setCell ⟨g, 7, none⟩ (.int .i64 (q : Int))).drew = w10 at *
                            go_wp2_with (first | (refine wpList_load_row rfl 34 _ rfl w.heap.size rfl 34 #[.int .u8 (mk : Nat), .int .i64 frm, .int .i64 to, .int .i64 term, .int .i64 (i : Nat), .int .i64 logTerm, .slice (some ⟨b, off, none⟩) n c, .int .i64 (q : Nat), .bool mok] (0, 0) _ (HST.out.2.2) Try.underlying34 rfl (by kernel_rfl) ?_) | fail)
                            refine (HAN.out { S8 with commit := q } A8 c8 _ HST.out.1 ((i : Int) + (n : Int)) true).mono ?_
                            rintro e w9 ⟨⟨D, d, rfl, hms⟩, hb9⟩
                            have HO : Hid (OutR w g A { S8 with commit := q } [S8.ans ⟨mk, frm, to, term, (i : Nat), logTerm, ents, (q : Nat), mok⟩ 4 ((i : Int) + (n : Int)) true] (.returned (.slice D 1 d)) w9) := OutR.ans ⟨A8, c8, HST.out.1, HST.out.2.1, H8.out.2.2.1⟩ (Rel.foll HQ3.out.2.2) hms hb9
                            clear hms hb9
                            go_wp2_with fail
                            go_ret
                            have h := HQ1.out
                            rw [show ((i + n : Nat) : Int) = (i : Int) + (n : Int) by omega] at h
                            injection h with h1 h2
                            rw [h1, h2]
                            exact HO.out
                        · have h1' : decide ((q : Int) ≤ (i : Int) + (n : Int)) = false := decide_eq_false h1
                          by_cases h2 : (i : Int) + (n : Int) ≤ (cm : Int)
                          · exact absurd h2 (by have := HGD.out hlt; omega)
                          · have h2' : decide ((i : Int) + (n : Int) ≤ (cm : Int)) = false := decide_eq_false h2
                            have hv : max cm (min q (i + n)) = i + n := by omega
                            have HQ1 : Hid ((S', ms) = ({ S8 with commit := i + n }, [S8.ans ⟨mk, frm, to, term, (i : Nat), logTerm, ents, (q : Nat), mok⟩ 4 ((i + n : Nat) : Int) true])) := Lib.hid (by rw [HQ3.out.1, hv])
                            clear hv
                            go_region
                            have hst := H8.out.1.set (S' := { S8 with commit := i + n }) 7 (.int .i64 ((i + n : Nat) : Int)) rfl H8.out.1.vl H8.out.1.pl rfl
                            rw [show ((i + n : Nat) : Int) = (i : Int) + (n : Int) by omega] at hst
                            have HST : Hid (RvM (w8.setCell ⟨g, 7, none⟩ (.int .i64 ((i : Int) + (n : Int)))).drew g { S8 with commit := i + n } A8 c8 V P ∧ Chg (SvT g A) w (w8.setCell ⟨g, 7, none⟩ (.int .i64 ((i : Int) + (n : Int)))).drew ∧ Blk (w8.setCell ⟨g, 7, none⟩ (.int .i64 ((i : Int) + (n : Int)))).drew w.heap.size 34 #[.int .u8 (mk : Nat), .int .i64 frm, .int .i64 to, .int .i64 term, .int .i64 (i : Nat), .int .i64 logTerm, .slice (some ⟨b, off, none⟩) n c, .int .i64 (q : Nat), .bool mok]) := Lib.hid ⟨hst.1.drew, (H8.out.2.1.trans (hst.2.mono (fun b hb => .inl hb))).drewN 1, (H8.out.2.2.2.chg hst.2 (fun h => hbg h)).drewN 1⟩
                            clear hst
                            generalize (w8.setCell ⟨g, 7, none⟩ (.int .i64 ((i : Int) + (n : Int)))).drew = w10 at *
                            go_wp2_with (first | (refine wpList_load_row rfl 34 _ rfl w.heap.size rfl 34 #[.int .u8 (mk : Nat), .int .i64 frm, .int .i64 to, .int .i64 term, .int .i64 (i : Nat), .int .i64 logTerm, .slice (some ⟨b, off, none⟩) n c, .int .i64 (q : Nat), .bool mok] (0, 0) _ (HST.out.2.2) Try.underlying34 rfl (by kernel_rfl) ?_) | fail)
                            refine (HAN.out { S8 with commit := i + n } A8 c8 _ HST.out.1 ((i : Int) + (n : Int)) true).mono ?_
                            rintro e w9 ⟨⟨D, d, rfl, hms⟩, hb9⟩
                            have HO : Hid (OutR w g A { S8 with commit := i + n } [S8.ans ⟨mk, frm, to, term, (i : Nat), logTerm, ents, (q : Nat), mok⟩ 4 ((i : Int) + (n : Int)) true] (.returned (.slice D 1 d)) w9) := OutR.ans ⟨A8, c8, HST.out.1, HST.out.2.1, H8.out.2.2.1⟩ (Rel.foll HQ3.out.2.2) hms hb9
                            clear hms hb9
                            go_wp2_with fail
                            go_ret
                            have h := HQ1.out
                            rw [show ((i + n : Nat) : Int) = (i : Int) + (n : Int) by omega] at h
                            injection h with h1 h2
                            rw [h1, h2]
                            exact HO.out
                      · have HT : Hid (∀ W, Below w3.heap.size w3 W → Calls Try.prog 73 #[.pointer (some ⟨g, 0, none⟩), .int .i64 ((i : Int) + 1 + (k : Int))] W fun e w' => e = .returned (.int .i64 (termAt S.log (i + 1 + k))) ∧ w' = W) := Lib.hid (fun W hW => by rw [show (i : Int) + 1 + (k : Int) = ((i + 1 + k : Nat) : Int) by omega]; exact termat_any (HX.out W hW).1 (i + 1 + k) (by show i + 1 + k ≤ S.log.length; rw [← HN.out.1]; omega) (by show S.log.length ≤ _; rw [← HN.out.1]; omega))
                        have dq : decide ((l : Int) < (i : Int) + 1 + (k : Int)) = false := decide_eq_false (by omega)
                        have hT : termAt S.log (i + 1 + k) ≠ t := by
                          have h := HDX.out.2.1 _ HDX.out.2.2
                          exact h.elim (fun h => by rw [← HN.out.1] at h; omega) id
                        generalize termAt S.log (i + 1 + k) = T at *
                        have db : (T != t) = true := by simp [hT]
                        clear hT HDX
                        go_wp2_with fail
                        go_quiet (refine Calls.quiet_of_same (HT.out _ (below_drewN HB.out _)))
                        have HB5 : Hid (Below w3.heap.size w3 (wr.drewN nq)) := Lib.hid (below_drewN HB.out _)
                        generalize wr.drewN nq = w5 at *
                        clear x4 x6 c4 c7 e0 e1 HB
                        have c4 := (HXC.out w5 HB5.out).2.2.2.1
                        have x6 := (HXC.out w5 HB5.out).2.1
                        have hcs : i + k ≤ cs := by have := HM.out.1.cap; have h2 : (S.foll frm).log.length = l := HN.out.1.symm; rw [h2] at this; omega
                        have hslC : (0 : Int) ≤ (i : Int) + 1 + (k : Int) - 1 := by omega
                        have hslD : ((i : Int) + 1 + (k : Int) - 1).toNat = i + k := by omega
                        have hslE : (i : Int) + 1 + (k : Int) - 1 ≤ (cs : Int) := by omega
                        have hsn : (n : Int) ≤ (c : Int) := by omega
                        have HCP : Hid (Calls Try.prog 57 #[.slice A (i + k) cs] w5 (ClonePost w5 (S.log.take (i + k)))) := by
                          have hl2 : (S.log.take (i + k)).length = i + k := by rw [List.length_take, ← HN.out.1]; omega
                          have h := copied_any A cs (S.log.take (i + k)) w5 ((HX.out _ HB5.out).1.rd.take _) (by rw [hl2]; omega)
                          rw [hl2] at h
                          exact Lib.hid h
                        go_wp2_with fail
                        refine HCP.out.mono ?_
                        rintro e w6 ⟨⟨A6, c6, rfl, ho6⟩, hb6⟩
                        have hl2 : (S.log.take (i + k)).length = i + k := by rw [List.length_take, ← HN.out.1]; omega
                        rw [hl2] at ho6 ⊢
                        have H6 := Lib.hid (And.intro ho6 hb6)
                        clear ho6 hb6 hl2 c4 x6 HCP
                        have x6 := (HXC.out w6 (HB5.out.trans (H6.out.2.mono HB5.out.size))).2.1
                        have HR1 : Hid (Reads w6 w6.heap.size 2 (some ⟨b, off + k * 2, none⟩) (n - k) (rowOf ecell (ents.drop k))) := by
                          have h1 := (HX.out w6 (HB5.out.trans (H6.out.2.mono HB5.out.size))).2.2
                          have h2 := (h1.cut k ents.length).reads ecell_len
                          rw [List.take_length, List.length_drop, ← HNN.out] at h2
                          exact Lib.hid h2
                        go_wp2_with (at_builtin; refine wpList_app_ents rfl (.tmp 138) (.tmp 142) rfl w5.heap.size (i + k) (n - k) c6 (c - k) _ A6 (some ⟨b, off + k * 2, none⟩) (S.log.take (i + k)) (ents.drop k) rfl H6.out.1 rfl HR1.out (by omega) H6.out.2.size ?_; intro A7 c7 w7 ho7 hg7 _; have H7 : Hid (w7.ownsRow w5.heap.size 39 2 (.slice A7 (i + k + (n - k)) c7) (i + k + (n - k)) (rowOf ecell (S.log.take (i + k) ++ ents.drop k)) ∧ Below w5.heap.size w5 w7) := Lib.hid ⟨ho7, H6.out.2.grown hg7 H6.out.2.size (fun r hr => (World.ownsRow.lt H6.out.1 r hr).1)⟩; clear ho7 hg7; have c4 := (HXC.out w7 (HB5.out.trans (H7.out.2.mono HB5.out.size))).2.2.2.1; have f4 : w7.frozen? ⟨g, 4, none⟩ = false := (HX.out w7 (HB5.out.trans (H7.out.2.mono HB5.out.size))).1.top.frozen 4; have y4 := (HXC.out w7 (HB5.out.trans (H7.out.2.mono HB5.out.size))).1; have y6 := (HXC.out w7 (HB5.out.trans (H7.out.2.mono HB5.out.size))).2.1)
                        have HQ2 : Hid ((S', ms) = ({ S.foll frm with log := S.log.take (i + k) ++ ents.drop k, commit := max cm (min q (i + n)) },
                              [S.ans ⟨mk, frm, to, term, (i : Nat), logTerm, ents, (q : Nat), mok⟩ 4 ((i + n : Nat) : Int) true])) := Lib.hid (by rw [HQ1.out, if_pos hlt, if_neg (by have := HGD.out hlt; omega)])
                        have hL : (S.log.take (i + k) ++ ents.drop k).length = i + k + (n - k) := by rw [List.length_append, List.length_take, List.length_drop, ← HN.out.1, ← HNN.out]; omega
                        have HM5 := Lib.hid (And.intro (HX.out w5 HB5.out).1 (And.intro (HM.out.2.1.trans (.of_below HB5.out)) (HX.out w5 HB5.out).2.1))
                        have hk := HM5.out.1.renew (A' := A7) (c' := c7) (L := S.log.take (i + k) ++ ents.drop k) H7.out.2 (by rw [hL]; exact H7.out.1)
                        rw [hL] at hk
                        have hch : Chg (fun b => b = g) w5 (w7.setCell ⟨g, 4, none⟩ (.slice A7 (i + k + (n - k)) c7)) := Chg.setCell (T := fun b => b = g) (Chg.of_below H7.out.2) (p := ⟨g, 4, none⟩) rfl _
                        obtain ⟨A8, c8, hm8, hc8, ht8⟩ := KeepsR.trans HM5.out.2.1 (fun a ha => .inl ⟨a, ha, rfl⟩) hk
                        have H8 : Hid (RvM (w7.setCell ⟨g, 4, none⟩ (.slice A7 (i + k + (n - k)) c7)) g { S.foll frm with log := S.log.take (i + k) ++ ents.drop k } A8 c8 V P ∧ Chg (SvT g A) w (w7.setCell ⟨g, 4, none⟩ (.slice A7 (i + k + (n - k)) c7)) ∧ (∀ a, A8 = some a → (∃ a0, A = some a0 ∧ a.block = a0.block) ∨ w.heap.size ≤ a.block) ∧ Blk (w7.setCell ⟨g, 4, none⟩ (.slice A7 (i + k + (n - k)) c7)) w.heap.size 34 #[.int .u8 (mk : Nat), .int .i64 frm, .int .i64 to, .int .i64 term, .int .i64 (i : Nat), .int .i64 logTerm, .slice (some ⟨b, off, none⟩) n c, .int .i64 (q : Nat), .bool mok]) := Lib.hid ⟨hm8, hc8, ht8, HM5.out.2.2.chg hch (fun h => hbg h)⟩
                        clear hm8 hc8 ht8 hk hch hL H6 H7 HM5 HR1 c4 f4 y4 y6 x6 hslC hslD hslE hsn hcs
                        generalize (w7.setCell ⟨g, 4, none⟩ (.slice A7 (i + k + (n - k)) c7)) = w8 at *
                        obtain ⟨S8, hS8⟩ : ∃ z, z = { S.foll frm with log := S.log.take (i + k) ++ ents.drop k } := ⟨_, rfl⟩
                        have HQ3 : Hid ((S', ms) = ({ S8 with commit := max cm (min q (i + n)) }, [S8.ans ⟨mk, frm, to, term, (i : Nat), logTerm, ents, (q : Nat), mok⟩ 4 ((i + n : Nat) : Int) true]) ∧ S8.commit = cm ∧ S8.role = 0) := by rw [hS8]; exact Lib.hid ⟨HQ2.out, HN.out.2.symm, rfl⟩
                        rw [← hS8] at H8
                        clear hS8 HQ2 HQ1
                        have z7 : w8.cell? ⟨w.heap.size, 7, none⟩ = some (.int .i64 (q : Nat)) := H8.out.2.2.2.cell 7
                        have c7 : w8.cell? ⟨g, 7, none⟩ = some (.int .i64 (cm : Nat)) := by rw [← HQ3.out.2.1]; exact H8.out.1.c7
                        have f7 : w8.frozen? ⟨g, 7, none⟩ = false := H8.out.1.top.frozen 7
                        by_cases h1 : (q : Int) ≤ (i : Int) + (n : Int)
                        · by_cases h2 : (q : Int) ≤ (cm : Int)
                          · have hv : max cm (min q (i + n)) = cm := by omega
                            have HQ1 : Hid ((S', ms) = ({ S8 with commit := cm }, [S8.ans ⟨mk, frm, to, term, (i : Nat), logTerm, ents, (q : Nat), mok⟩ 4 ((i + n : Nat) : Int) true])) := Lib.hid (by rw [HQ3.out.1, hv])
                            clear hv
                            go_region
                            have hst := H8.out.1.set (S' := { S8 with commit := cm }) 7 (.int .i64 ((cm : Nat) : Int)) rfl H8.out.1.vl H8.out.1.pl rfl
                            have HST : Hid (RvM (w8.setCell ⟨g, 7, none⟩ (.int .i64 (cm : Int))).drew g { S8 with commit := cm } A8 c8 V P ∧ Chg (SvT g A) w (w8.setCell ⟨g, 7, none⟩ (.int .i64 (cm : Int))).drew ∧ Blk (w8.setCell ⟨g, 7, none⟩ (.int .i64 (cm : Int))).drew w.heap.size 34 #[.int .u8 (mk : Nat), .int .i64 frm, .int .i64 to, .int .i64 term, .int .i64 (i : Nat), .int .i64 logTerm, .slice (some ⟨b, off, none⟩) n c, .int .i64 (q : Nat), .bool mok]) := Lib.hid ⟨hst.1.drew, (H8.out.2.1.trans (hst.2.mono (fun b hb => .inl hb))).drewN 1, (H8.out.2.2.2.chg hst.2 (fun h => hbg h)).drewN 1⟩
                            clear hst
                            generalize (w8.setCell ⟨g, 7, none⟩ (.int .i64 (cm : Int))).drew = w10 at *
                            go_wp2_with (first | (refine wpList_load_row rfl 34 _ rfl w.heap.size rfl 34 #[.int .u8 (mk : Nat), .int .i64 frm, .int .i64 to, .int .i64 term, .int .i64 (i : Nat), .int .i64 logTerm, .slice (some ⟨b, off, none⟩) n c, .int .i64 (q : Nat), .bool mok] (0, 0) _ (HST.out.2.2) Try.underlying34 rfl (by kernel_rfl) ?_) | fail)
                            refine (HAN.out { S8 with commit := cm } A8 c8 _ HST.out.1 ((i : Int) + (n : Int)) true).mono ?_
                            rintro e w9 ⟨⟨D, d, rfl, hms⟩, hb9⟩
                            have HO : Hid (OutR w g A { S8 with commit := cm } [S8.ans ⟨mk, frm, to, term, (i : Nat), logTerm, ents, (q : Nat), mok⟩ 4 ((i : Int) + (n : Int)) true] (.returned (.slice D 1 d)) w9) := OutR.ans ⟨A8, c8, HST.out.1, HST.out.2.1, H8.out.2.2.1⟩ (Rel.foll HQ3.out.2.2) hms hb9
                            clear hms hb9
                            go_wp2_with fail
                            go_ret
                            have h := HQ1.out
                            rw [show ((i + n : Nat) : Int) = (i : Int) + (n : Int) by omega] at h
                            injection h with h1 h2
                            rw [h1, h2]
                            exact HO.out
                          · have h2' : decide ((q : Int) ≤ (cm : Int)) = false := decide_eq_false h2
                            have hv : max cm (min q (i + n)) = q := by omega
                            have HQ1 : Hid ((S', ms) = ({ S8 with commit := q }, [S8.ans ⟨mk, frm, to, term, (i : Nat), logTerm, ents, (q : Nat), mok⟩ 4 ((i + n : Nat) : Int) true])) := Lib.hid (by rw [HQ3.out.1, hv])
                            clear hv
                            go_region
                            have hst := H8.out.1.set (S' := { S8 with commit := q }) 7 (.int .i64 ((q : Nat) : Int)) rfl H8.out.1.vl H8.out.1.pl rfl
                            have HST : Hid (RvM (w8.setCell ⟨g, 7, none⟩ (.int .i64 (q : Int))).drew g { S8 with commit := q } A8 c8 V P ∧ Chg (SvT g A) w (w8.setCell ⟨g, 7, none⟩ (.int .i64 (q : Int))).drew ∧ Blk (w8.setCell ⟨g, 7, none⟩ (.int .i64 (q : Int))).drew w.heap.size 34 #[.int .u8 (mk : Nat), .int .i64 frm, .int .i64 to, .int .i64 term, .int .i64 (i : Nat), .int .i64 logTerm, .slice (some ⟨b, off, none⟩) n c, .int .i64 (q : Nat), .bool mok]) := Lib.hid ⟨hst.1.drew, (H8.out.2.1.trans (hst.2.mono (fun b hb => .inl hb))).drewN 1, (H8.out.2.2.2.chg hst.2 (fun h => hbg h)).drewN 1⟩
                            clear hst
                            generalize (w8.setCell ⟨g, 7, none⟩ (.int .i64 (q : Int))).drew = w10 at *
                            go_wp2_with (first | (refine wpList_load_row rfl 34 _ rfl w.heap.size rfl 34 #[.int .u8 (mk : Nat), .int .i64 frm, .int .i64 to, .int .i64 term, .int .i64 (i : Nat), .int .i64 logTerm, .slice (some ⟨b, off, none⟩) n c, .int .i64 (q : Nat), .bool mok] (0, 0) _ (HST.out.2.2) Try.underlying34 rfl (by kernel_rfl) ?_) | fail)
                            refine (HAN.out { S8 with commit := q } A8 c8 _ HST.out.1 ((i : Int) + (n : Int)) true).mono ?_
                            rintro e w9 ⟨⟨D, d, rfl, hms⟩, hb9⟩
                            have HO : Hid (OutR w g A { S8 with commit := q } [S8.ans ⟨mk, frm, to, term, (i : Nat), logTerm, ents, (q : Nat), mok⟩ 4 ((i : Int) + (n : Int)) true] (.returned (.slice D 1 d)) w9) := OutR.ans ⟨A8, c8, HST.out.1, HST.out.2.1, H8.out.2.2.1⟩ (Rel.foll HQ3.out.2.2) hms hb9
                            clear hms hb9
                            go_wp2_with fail
                            go_ret
                            have h := HQ1.out
                            rw [show ((i + n : Nat) : Int) = (i : Int) + (n : Int) by omega] at h
                            injection h with h1 h2
                            rw [h1, h2]
                            exact HO.out
                        · have h1' : decide ((q : Int) ≤ (i : Int) + (n : Int)) = false := decide_eq_false h1
                          by_cases h2 : (i : Int) + (n : Int) ≤ (cm : Int)
                          · exact absurd h2 (by have := HGD.out hlt; omega)
                          · have h2' : decide ((i : Int) + (n : Int) ≤ (cm : Int)) = false := decide_eq_false h2
                            have hv : max cm (min q (i + n)) = i + n := by omega
                            have HQ1 : Hid ((S', ms) = ({ S8 with commit := i + n }, [S8.ans ⟨mk, frm, to, term, (i : Nat), logTerm, ents, (q : Nat), mok⟩ 4 ((i + n : Nat) : Int) true])) := Lib.hid (by rw [HQ3.out.1, hv])
                            clear hv
                            go_region
                            have hst := H8.out.1.set (S' := { S8 with commit := i + n }) 7 (.int .i64 ((i + n : Nat) : Int)) rfl H8.out.1.vl H8.out.1.pl rfl
                            rw [show ((i + n : Nat) : Int) = (i : Int) + (n : Int) by omega] at hst
                            have HST : Hid (RvM (w8.setCell ⟨g, 7, none⟩ (.int .i64 ((i : Int) + (n : Int)))).drew g { S8 with commit := i + n } A8 c8 V P ∧ Chg (SvT g A) w (w8.setCell ⟨g, 7, none⟩ (.int .i64 ((i : Int) + (n : Int)))).drew ∧ Blk (w8.setCell ⟨g, 7, none⟩ (.int .i64 ((i : Int) + (n : Int)))).drew w.heap.size 34 #[.int .u8 (mk : Nat), .int .i64 frm, .int .i64 to, .int .i64 term, .int .i64 (i : Nat), .int .i64 logTerm, .slice (some ⟨b, off, none⟩) n c, .int .i64 (q : Nat), .bool mok]) := Lib.hid ⟨hst.1.drew, (H8.out.2.1.trans (hst.2.mono (fun b hb => .inl hb))).drewN 1, (H8.out.2.2.2.chg hst.2 (fun h => hbg h)).drewN 1⟩
                            clear hst
                            generalize (w8.setCell ⟨g, 7, none⟩ (.int .i64 ((i : Int) + (n : Int)))).drew = w10 at *
                            go_wp2_with (first | (refine wpList_load_row rfl 34 _ rfl w.heap.size rfl 34 #[.int .u8 (mk : Nat), .int .i64 frm, .int .i64 to, .int .i64 term, .int .i64 (i : Nat), .int .i64 logTerm, .slice (some ⟨b, off, none⟩) n c, .int .i64 (q : Nat), .bool mok] (0, 0) _ (HST.out.2.2) Try.underlying34 rfl (by kernel_rfl) ?_) | fail)
                            refine (HAN.out { S8 with commit := i + n } A8 c8 _ HST.out.1 ((i : Int) + (n : Int)) true).mono ?_
                            rintro e w9 ⟨⟨D, d, rfl, hms⟩, hb9⟩
                            have HO : Hid (OutR w g A { S8 with commit := i + n } [S8.ans ⟨mk, frm, to, term, (i : Nat), logTerm, ents, (q : Nat), mok⟩ 4 ((i : Int) + (n : Int)) true] (.returned (.slice D 1 d)) w9) := OutR.ans ⟨A8, c8, HST.out.1, HST.out.2.1, H8.out.2.2.1⟩ (Rel.foll HQ3.out.2.2) hms hb9
                            clear hms hb9
                            go_wp2_with fail
                            go_ret
                            have h := HQ1.out
                            rw [show ((i + n : Nat) : Int) = (i : Int) + (n : Int) by omega] at h
                            injection h with h1 h2
                            rw [h1, h2]
                            exact HO.out
                  · have hd1 : decide ((k : Int) < (n : Int)) = false := decide_eq_false (by omega)
                    have hdn : df = n := by omega
                    have HQ2 : Hid ((S', ms) = ({ S.foll frm with commit := max cm (min q (i + n)) }, [S.ans ⟨mk, frm, to, term, (i : Nat), logTerm, ents, (q : Nat), mok⟩ 4 ((i + n : Nat) : Int) true])) := Lib.hid (by rw [HQ1.out, if_neg (by omega)])
                    clear hdn HQ1
                    go_wp2_with fail
                    obtain ⟨S8, hS8⟩ : ∃ z, z = S.foll frm := ⟨_, rfl⟩
                    have H8 : Hid (RvM wr g S8 A cs V P ∧ Chg (SvT g A) w wr ∧ (∀ a, A = some a → (∃ a0, A = some a0 ∧ a.block = a0.block) ∨ w.heap.size ≤ a.block) ∧ Blk wr w.heap.size 34 #[.int .u8 (mk : Nat), .int .i64 frm, .int .i64 to, .int .i64 term, .int .i64 (i : Nat), .int .i64 logTerm, .slice E n c, .int .i64 (q : Nat), .bool mok]) := by rw [hS8]; exact Lib.hid ⟨(HX.out wr HB.out).1, HM.out.2.1.trans (.of_below HB.out), fun a ha => .inl ⟨a, ha, rfl⟩, (HX.out wr HB.out).2.1⟩
                    have HQ3 : Hid ((S', ms) = ({ S8 with commit := max cm (min q (i + n)) }, [S8.ans ⟨mk, frm, to, term, (i : Nat), logTerm, ents, (q : Nat), mok⟩ 4 ((i + n : Nat) : Int) true]) ∧ S8.commit = cm ∧ S8.role = 0) := by rw [hS8]; exact Lib.hid ⟨HQ2.out, HN.out.2.symm, rfl⟩
                    clear hS8 HQ2 x4 x6 c4 c7 hd1
                    have z7 : wr.cell? ⟨w.heap.size, 7, none⟩ = some (.int .i64 (q : Nat)) := H8.out.2.2.2.cell 7
                    have c7 : wr.cell? ⟨g, 7, none⟩ = some (.int .i64 (cm : Nat)) := by rw [← HQ3.out.2.1]; exact H8.out.1.c7
                    have f7 : wr.frozen? ⟨g, 7, none⟩ = false := H8.out.1.top.frozen 7
                    by_cases h1 : (q : Int) ≤ (i : Int) + (n : Int)
                    · by_cases h2 : (q : Int) ≤ (cm : Int)
                      · have hv : max cm (min q (i + n)) = cm := by omega
                        have HQ1 : Hid ((S', ms) = ({ S8 with commit := cm }, [S8.ans ⟨mk, frm, to, term, (i : Nat), logTerm, ents, (q : Nat), mok⟩ 4 ((i + n : Nat) : Int) true])) := Lib.hid (by rw [HQ3.out.1, hv])
                        clear hv
                        go_region
                        have hst := H8.out.1.set (S' := { S8 with commit := cm }) 7 (.int .i64 ((cm : Nat) : Int)) rfl H8.out.1.vl H8.out.1.pl rfl
                        have HST : Hid (RvM (wr.setCell ⟨g, 7, none⟩ (.int .i64 (cm : Int))).drew g { S8 with commit := cm } A cs V P ∧ Chg (SvT g A) w (wr.setCell ⟨g, 7, none⟩ (.int .i64 (cm : Int))).drew ∧ Blk (wr.setCell ⟨g, 7, none⟩ (.int .i64 (cm : Int))).drew w.heap.size 34 #[.int .u8 (mk : Nat), .int .i64 frm, .int .i64 to, .int .i64 term, .int .i64 (i : Nat), .int .i64 logTerm, .slice E n c, .int .i64 (q : Nat), .bool mok]) := Lib.hid ⟨hst.1.drew, (H8.out.2.1.trans (hst.2.mono (fun b hb => .inl hb))).drewN 1, (H8.out.2.2.2.chg hst.2 (fun h => hbg h)).drewN 1⟩
                        clear hst
                        generalize (wr.setCell ⟨g, 7, none⟩ (.int .i64 (cm : Int))).drew = w10 at *
                        go_wp2_with (first | (refine wpList_load_row rfl 34 _ rfl w.heap.size rfl 34 #[.int .u8 (mk : Nat), .int .i64 frm, .int .i64 to, .int .i64 term, .int .i64 (i : Nat), .int .i64 logTerm, .slice E n c, .int .i64 (q : Nat), .bool mok] (0, 0) _ (HST.out.2.2) Try.underlying34 rfl (by kernel_rfl) ?_) | fail)
                        refine (HAN.out { S8 with commit := cm } A cs _ HST.out.1 ((i : Int) + (n : Int)) true).mono ?_
                        rintro e w9 ⟨⟨D, d, rfl, hms⟩, hb9⟩
                        have HO : Hid (OutR w g A { S8 with commit := cm } [S8.ans ⟨mk, frm, to, term, (i : Nat), logTerm, ents, (q : Nat), mok⟩ 4 ((i : Int) + (n : Int)) true] (.returned (.slice D 1 d)) w9) := OutR.ans ⟨A, cs, HST.out.1, HST.out.2.1, H8.out.2.2.1⟩ (Rel.foll HQ3.out.2.2) hms hb9
                        clear hms hb9
                        go_wp2_with fail
                        go_ret
                        have h := HQ1.out
                        rw [show ((i + n : Nat) : Int) = (i : Int) + (n : Int) by omega] at h
                        injection h with h1 h2
                        rw [h1, h2]
                        exact HO.out
                      · have h2' : decide ((q : Int) ≤ (cm : Int)) = false := decide_eq_false h2
                        have hv : max cm (min q (i + n)) = q := by omega
                        have HQ1 : Hid ((S', ms) = ({ S8 with commit := q }, [S8.ans ⟨mk, frm, to, term, (i : Nat), logTerm, ents, (q : Nat), mok⟩ 4 ((i + n : Nat) : Int) true])) := Lib.hid (by rw [HQ3.out.1, hv])
                        clear hv
                        go_region
                        have hst := H8.out.1.set (S' := { S8 with commit := q }) 7 (.int .i64 ((q : Nat) : Int)) rfl H8.out.1.vl H8.out.1.pl rfl
                        have HST : Hid (RvM (wr.setCell ⟨g, 7, none⟩ (.int .i64 (q : Int))).drew g { S8 with commit := q } A cs V P ∧ Chg (SvT g A) w (wr.setCell ⟨g, 7, none⟩ (.int .i64 (q : Int))).drew ∧ Blk (wr.setCell ⟨g, 7, none⟩ (.int .i64 (q : Int))).drew w.heap.size 34 #[.int .u8 (mk : Nat), .int .i64 frm, .int .i64 to, .int .i64 term, .int .i64 (i : Nat), .int .i64 logTerm, .slice E n c, .int .i64 (q : Nat), .bool mok]) := Lib.hid ⟨hst.1.drew, (H8.out.2.1.trans (hst.2.mono (fun b hb => .inl hb))).drewN 1, (H8.out.2.2.2.chg hst.2 (fun h => hbg h)).drewN 1⟩
                        clear hst
                        generalize (wr.setCell ⟨g, 7, none⟩ (.int .i64 (q : Int))).drew = w10 at *
                        go_wp2_with (first | (refine wpList_load_row rfl 34 _ rfl w.heap.size rfl 34 #[.int .u8 (mk : Nat), .int .i64 frm, .int .i64 to, .int .i64 term, .int .i64 (i : Nat), .int .i64 logTerm, .slice E n c, .int .i64 (q : Nat), .bool mok] (0, 0) _ (HST.out.2.2) Try.underlying34 rfl (by kernel_rfl) ?_) | fail)
                        refine (HAN.out { S8 with commit := q } A cs _ HST.out.1 ((i : Int) + (n : Int)) true).mono ?_
                        rintro e w9 ⟨⟨D, d, rfl, hms⟩, hb9⟩
                        have HO : Hid (OutR w g A { S8 with commit := q } [S8.ans ⟨mk, frm, to, term, (i : Nat), logTerm, ents, (q : Nat), mok⟩ 4 ((i : Int) + (n : Int)) true] (.returned (.slice D 1 d)) w9) := OutR.ans ⟨A, cs, HST.out.1, HST.out.2.1, H8.out.2.2.1⟩ (Rel.foll HQ3.out.2.2) hms hb9
                        clear hms hb9
                        go_wp2_with fail
                        go_ret
                        have h := HQ1.out
                        rw [show ((i + n : Nat) : Int) = (i : Int) + (n : Int) by omega] at h
                        injection h with h1 h2
                        rw [h1, h2]
                        exact HO.out
                    · have h1' : decide ((q : Int) ≤ (i : Int) + (n : Int)) = false := decide_eq_false h1
                      by_cases h2 : (i : Int) + (n : Int) ≤ (cm : Int)
                      · have hv : max cm (min q (i + n)) = cm := by omega
                        have HQ1 : Hid ((S', ms) = ({ S8 with commit := cm }, [S8.ans ⟨mk, frm, to, term, (i : Nat), logTerm, ents, (q : Nat), mok⟩ 4 ((i + n : Nat) : Int) true])) := Lib.hid (by rw [HQ3.out.1, hv])
                        clear hv
                        go_region
                        have hst := H8.out.1.set (S' := { S8 with commit := cm }) 7 (.int .i64 ((cm : Nat) : Int)) rfl H8.out.1.vl H8.out.1.pl rfl
                        have HST : Hid (RvM (wr.setCell ⟨g, 7, none⟩ (.int .i64 (cm : Int))).drew g { S8 with commit := cm } A cs V P ∧ Chg (SvT g A) w (wr.setCell ⟨g, 7, none⟩ (.int .i64 (cm : Int))).drew ∧ Blk (wr.setCell ⟨g, 7, none⟩ (.int .i64 (cm : Int))).drew w.heap.size 34 #[.int .u8 (mk : Nat), .int .i64 frm, .int .i64 to, .int .i64 term, .int .i64 (i : Nat), .int .i64 logTerm, .slice E n c, .int .i64 (q : Nat), .bool mok]) := Lib.hid ⟨hst.1.drew, (H8.out.2.1.trans (hst.2.mono (fun b hb => .inl hb))).drewN 1, (H8.out.2.2.2.chg hst.2 (fun h => hbg h)).drewN 1⟩
                        clear hst
                        generalize (wr.setCell ⟨g, 7, none⟩ (.int .i64 (cm : Int))).drew = w10 at *
                        go_wp2_with (first | (refine wpList_load_row rfl 34 _ rfl w.heap.size rfl 34 #[.int .u8 (mk : Nat), .int .i64 frm, .int .i64 to, .int .i64 term, .int .i64 (i : Nat), .int .i64 logTerm, .slice E n c, .int .i64 (q : Nat), .bool mok] (0, 0) _ (HST.out.2.2) Try.underlying34 rfl (by kernel_rfl) ?_) | fail)
                        refine (HAN.out { S8 with commit := cm } A cs _ HST.out.1 ((i : Int) + (n : Int)) true).mono ?_
                        rintro e w9 ⟨⟨D, d, rfl, hms⟩, hb9⟩
                        have HO : Hid (OutR w g A { S8 with commit := cm } [S8.ans ⟨mk, frm, to, term, (i : Nat), logTerm, ents, (q : Nat), mok⟩ 4 ((i : Int) + (n : Int)) true] (.returned (.slice D 1 d)) w9) := OutR.ans ⟨A, cs, HST.out.1, HST.out.2.1, H8.out.2.2.1⟩ (Rel.foll HQ3.out.2.2) hms hb9
                        clear hms hb9
                        go_wp2_with fail
                        go_ret
                        have h := HQ1.out
                        rw [show ((i + n : Nat) : Int) = (i : Int) + (n : Int) by omega] at h
                        injection h with h1 h2
                        rw [h1, h2]
                        exact HO.out
                      · have h2' : decide ((i : Int) + (n : Int) ≤ (cm : Int)) = false := decide_eq_false h2
                        have hv : max cm (min q (i + n)) = i + n := by omega
                        have HQ1 : Hid ((S', ms) = ({ S8 with commit := i + n }, [S8.ans ⟨mk, frm, to, term, (i : Nat), logTerm, ents, (q : Nat), mok⟩ 4 ((i + n : Nat) : Int) true])) := Lib.hid (by rw [HQ3.out.1, hv])
                        clear hv
                        go_region
                        have hst := H8.out.1.set (S' := { S8 with commit := i + n }) 7 (.int .i64 ((i + n : Nat) : Int)) rfl H8.out.1.vl H8.out.1.pl rfl
                        rw [show ((i + n : Nat) : Int) = (i : Int) + (n : Int) by omega] at hst
                        have HST : Hid (RvM (wr.setCell ⟨g, 7, none⟩ (.int .i64 ((i : Int) + (n : Int)))).drew g { S8 with commit := i + n } A cs V P ∧ Chg (SvT g A) w (wr.setCell ⟨g, 7, none⟩ (.int .i64 ((i : Int) + (n : Int)))).drew ∧ Blk (wr.setCell ⟨g, 7, none⟩ (.int .i64 ((i : Int) + (n : Int)))).drew w.heap.size 34 #[.int .u8 (mk : Nat), .int .i64 frm, .int .i64 to, .int .i64 term, .int .i64 (i : Nat), .int .i64 logTerm, .slice E n c, .int .i64 (q : Nat), .bool mok]) := Lib.hid ⟨hst.1.drew, (H8.out.2.1.trans (hst.2.mono (fun b hb => .inl hb))).drewN 1, (H8.out.2.2.2.chg hst.2 (fun h => hbg h)).drewN 1⟩
                        clear hst
                        generalize (wr.setCell ⟨g, 7, none⟩ (.int .i64 ((i : Int) + (n : Int)))).drew = w10 at *
                        go_wp2_with (first | (refine wpList_load_row rfl 34 _ rfl w.heap.size rfl 34 #[.int .u8 (mk : Nat), .int .i64 frm, .int .i64 to, .int .i64 term, .int .i64 (i : Nat), .int .i64 logTerm, .slice E n c, .int .i64 (q : Nat), .bool mok] (0, 0) _ (HST.out.2.2) Try.underlying34 rfl (by kernel_rfl) ?_) | fail)
                        refine (HAN.out { S8 with commit := i + n } A cs _ HST.out.1 ((i : Int) + (n : Int)) true).mono ?_
                        rintro e w9 ⟨⟨D, d, rfl, hms⟩, hb9⟩
                        have HO : Hid (OutR w g A { S8 with commit := i + n } [S8.ans ⟨mk, frm, to, term, (i : Nat), logTerm, ents, (q : Nat), mok⟩ 4 ((i : Int) + (n : Int)) true] (.returned (.slice D 1 d)) w9) := OutR.ans ⟨A, cs, HST.out.1, HST.out.2.1, H8.out.2.2.1⟩ (Rel.foll HQ3.out.2.2) hms hb9
                        clear hms hb9
                        go_wp2_with fail
                        go_ret
                        have h := HQ1.out
                        rw [show ((i + n : Nat) : Int) = (i : Int) + (n : Int) by omega] at h
                        injection h with h1 h2
                        rw [h1, h2]
                        exact HO.out
        · have b2 : (T != logTerm) = true := by simp [htm]
          have e2 : decide ((l : Int) ≤ (i : Int) - 1) = false := decide_eq_false (by omega)
          have HQ1 : Hid ((S', ms) = (S.foll frm, [(S.foll frm).ans ⟨mk, frm, to, term, (i : Nat), logTerm, ents, (q : Nat), mok⟩ 4 ((i : Int) - 1) false])) := Lib.hid (by
            rw [HQ.out, if_neg (Int.not_lt.mpr hNT.out), if_neg hNR.out, if_pos (.inr htm), show min (S.log.length : Int) ((i : Int) - 1) = (i : Int) - 1 by rw [← HN.out.1]; omega]; rfl)
          clear HQ htm
          go_quiet (refine Calls.quiet_of_same (HT.out _ (below_drewN (Below.refl _ _) _)))
          have HB4 := Lib.hid (below_drewN (Below.refl w3.heap.size w3) nq)
          generalize w3.drewN nq = w4 at *
          clear x4 x5 c4
          go_wp2_with fail
          refine wp_region_plan (.q 0 (.q 1 (.q 2 (.q 3 (.q 4 (.q 5 (.q 6 (.q 7 (.q 8 (.q 9 (.q 10 (.q 11 (.a1 12 (.q 13 .fin)))))))))))))) 12 (fun W => Below w3.heap.size w3 W) (by kernel_rfl) rfl (by kernel_rfl) HB4.out.drew ?_
          refine wpPlan_q rfl rfl rfl ?_; intro K hK
          go_big_quiet_op
          first | go_big_quiet_on | (refine ⟨_, fun _ _ => rfl, ?_⟩; go_big_quiet_on)
          refine wpPlan_q rfl rfl rfl ?_; intro K hK
          refine quiet_load_row 34 (.tmp 3) rfl w.heap.size rfl 34 #[.int .u8 (mk : Nat), .int .i64 frm, .int .i64 to, .int .i64 term, .int .i64 (i : Nat), .int .i64 logTerm, .slice E n c, .int .i64 (q : Nat), .bool mok] (0, 0) _ (fun W hW => (HXC.out W hW).2.2.1) Try.underlying34 rfl (by kernel_rfl) ?_
          refine hK _ ?_
          clear hK K
          try simp only [Act.put, List.setIfInBounds_toArray, List.set_cons_succ, List.set_cons_zero]
          refine wpPlan_q rfl rfl rfl ?_; intro K hK
          go_big_quiet_op
          first | go_big_quiet_on | (refine ⟨_, fun _ _ => rfl, ?_⟩; go_big_quiet_on)
          refine wpPlan_q rfl rfl rfl ?_; intro K hK
          go_big_quiet_op
          first | go_big_quiet_on | (refine ⟨_, fun _ _ => rfl, ?_⟩; go_big_quiet_on)
          refine wpPlan_q rfl rfl rfl ?_; intro K hK
          go_big_quiet_op
          first | go_big_quiet_on | (refine ⟨_, fun _ _ => rfl, ?_⟩; go_big_quiet_on)
          refine wpPlan_q rfl rfl rfl ?_; intro K hK
          go_big_quiet_op
          first | go_big_quiet_on | (refine ⟨_, fun _ _ => rfl, ?_⟩; go_big_quiet_on)
          refine wpPlan_q rfl rfl rfl ?_; intro K hK
          refine ⟨(.slice A l cs), fun W hW => ?_, ?_⟩
          · have q0 := (HXC.out W hW).2.2.2.1
            unfold Oper.quietAt Oper.quietUpon
            simp [go_sem, q0]
          refine hK _ ?_
          clear hK K
          try simp only [Act.put, List.setIfInBounds_toArray, List.set_cons_succ, List.set_cons_zero]
          refine wpPlan_q rfl rfl rfl ?_; intro K hK
          go_big_quiet_op
          first | go_big_quiet_on | (refine ⟨_, fun _ _ => rfl, ?_⟩; go_big_quiet_on)
          refine wpPlan_q rfl rfl rfl ?_; intro K hK
          go_big_quiet_op
          first | go_big_quiet_on | (refine ⟨_, fun _ _ => rfl, ?_⟩; go_big_quiet_on)
          refine wpPlan_q rfl rfl rfl ?_; intro K hK
          refine ⟨(.int .i64 (i : Nat)), fun W hW => ?_, ?_⟩
          · have q0 := (HXC.out W hW).1
            unfold Oper.quietAt Oper.quietUpon
            simp [go_sem, q0]
          refine hK _ ?_
          clear hK K
          try simp only [Act.put, List.setIfInBounds_toArray, List.set_cons_succ, List.set_cons_zero]
          refine wpPlan_q rfl rfl rfl ?_; intro K hK
          go_big_quiet_op
          first | go_big_quiet_on | (refine ⟨_, fun _ _ => rfl, ?_⟩; go_big_quiet_on)
          refine wpPlan_q rfl rfl rfl ?_; intro K hK
          go_big_quiet_op
          first | go_big_quiet_on | (refine ⟨_, fun _ _ => rfl, ?_⟩; go_big_quiet_on)
          refine wpPlan_act false rfl rfl rfl ?_; intro K hK
          go_simp
          refine (HAN.out (S.foll frm) A cs _ (HX.out _ HB4.out.drew).1 ((i : Int) - 1) false).mono ?_
          rintro e w9 ⟨⟨D, d, rfl, hms⟩, hb9⟩
          have HO : Hid (OutR w g A (S.foll frm) [(S.foll frm).ans ⟨mk, frm, to, term, (i : Nat), logTerm, ents, (q : Nat), mok⟩ 4 ((i : Int) - 1) false] (.returned (.slice D 1 d)) w9) := OutR.ans ⟨A, cs, (HX.out _ HB4.out.drew).1, HM.out.2.1.trans (.of_below HB4.out.drew), fun a ha => .inl ⟨a, ha, rfl⟩⟩ hRL.out hms hb9
          clear hms hb9
          refine hK _ _ (fun h => by cases h) ?_
          clear hK K
          try simp only [Act.put, List.setIfInBounds_toArray, List.set_cons_succ, List.set_cons_zero]
          refine wpPlan_p rfl rfl rfl ?_; intro K hK
          go_big_quiet_op
          first | go_big_quiet_on | (refine ⟨_, fun _ _ => rfl, ?_⟩; go_big_quiet_on)
          refine wpPlan_fin ?_
          go_wp2_with fail
          go_ret
          have h := HQ1.out
          injection h with h1 h2
          rw [h1, h2]
          exact HO.out
end Go.Proofs.Ytjodglepaeomiaa
