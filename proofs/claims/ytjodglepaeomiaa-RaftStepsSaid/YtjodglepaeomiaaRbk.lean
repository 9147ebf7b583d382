/- Contract of the document's back. -/
import Derived.Test.YtjodglepaeomiaaRap
namespace Go.Proofs.Ytjodglepaeomiaa
open Go.RowKit

/-- 'out = append(out, m)', at the operation. -/
theorem wp_app_msg {o : Oper} {a : Act} {W : World} {K : Act → World → Prop} {Q : Exit → Act → World → Prop} (sl x : Operand)
    (ho : o.op = .call { callee := .builtin .append, args := #[sl, x], argTypes := #[30, 30] }) (base g n cap : Nat) (A : Option Addr) (l : List Value) (y : Mx)
    (hs : a.eval sl = .slice A n cap) (hown : W.ownsRow base 34 9 (.slice A n cap) n l) (hx : a.eval x = .slice (some ⟨g, 0, none⟩) 1 1)
    (hg : W.heap[g]? = some (.cells (xcell y).toArray 34 (0, 0))) (hm : n ≤ 100000) (hb : base ≤ W.heap.size)
    (h : ∀ A' c' W', W'.ownsRow base 34 9 (.slice A' (n + 1) c') (n + 1) (l ++ xcell y) → W.grownBy W' (Value.slice A n cap).ownBlock → K (a.put o.dst (.slice A' (n + 1) c')) W') :
    o.wp Try.prog a W K Q := by
  obtain ⟨i0, hi0, hz0, hz1, hz2⟩ := info_parts Try.info34
  refine wp_append_own _ sl x 30 ho base 34 i0 (.agg #[.int .u8 0, .int .i64 0, .int .i64 0, .int .i64 0, .int .i64 0, .int .i64 0, .slice none 0 0, .int .i64 0, .bool false]) 9 88 Try.underlying30 hi0 hz0 hz1 hz2 rfl (by decide) (.slice A n cap) n l hs hown ⟨g, 0, none⟩ 1 1 (xcell y) hx rfl (fun j u hu => ?_) (xcell_one y) (by unfold maxLen; omega) (by omega) hb ?_
  · rw [addr_add, Nat.zero_add]
    exact (cell_of_row W g j _ 34 (0, 0) hg).trans (by simpa using hu)
  · intro v3 w3 ho3 hg3 _
    obtain ⟨A3, c3, rfl, _⟩ := own_form ho3
    exact h A3 c3 w3 ho3 hg3
set_option maxRecDepth 100000 in
set_option maxHeartbeats 4000000 in
theorem back_any (S : Sv) (m : Mg) (g : Nat) (A E : Option Addr) (cs c kind : Nat) (index : Int) (ok : Bool) (V : List Bool) (P : List (Nat × Nat)) (w : World) (hS : RvM w g S A cs V P) :
    Calls Try.prog 83 #[.pointer (some ⟨g, 0, none⟩), .agg (mcell E c m).toArray, .int .u8 (kind : Nat), .int .i64 index, .bool ok] w fun e w' => (∃ D d, e = .returned (.slice D 1 d) ∧ MsR w' w.heap.size D 1 d [S.ans m kind index ok]) ∧ Below w.heap.size w w' := by
  obtain ⟨mk, frm, to, term, mi, logTerm, ents, commit, mok⟩ := m
  dsimp only [mcell]
  have HB1 : Hid (Below w.heap.size w (w.alloc (.cells #[.int .u8 (mk : Nat), .int .i64 frm, .int .i64 to, .int .i64 term, .int .i64 mi, .int .i64 logTerm, .slice E ents.length c, .int .i64 commit, .bool mok] 34)) ∧ Blk (w.alloc (.cells #[.int .u8 (mk : Nat), .int .i64 frm, .int .i64 to, .int .i64 term, .int .i64 mi, .int .i64 logTerm, .slice E ents.length c, .int .i64 commit, .bool mok] 34)) w.heap.size 34 #[.int .u8 (mk : Nat), .int .i64 frm, .int .i64 to, .int .i64 term, .int .i64 mi, .int .i64 logTerm, .slice E ents.length c, .int .i64 commit, .bool mok]) := Lib.hid ⟨(Below.refl _ w).alloc (Nat.le_refl _) _, Blk.new _ _ _⟩
  have HS := Lib.hid hS
  have hgl := hS.lt
  clear hS
  go_enter Try.func83, Try.ntmps83
  go_wp2_with fail
  generalize w.alloc (.cells #[.int .u8 (mk : Nat), .int .i64 frm, .int .i64 to, .int .i64 term, .int .i64 mi, .int .i64 logTerm, .slice E ents.length c, .int .i64 commit, .bool mok] 34) = w1 at *
  have HC : Hid (∀ W, Below w1.heap.size w1 W → W.cell? ⟨g, 0, none⟩ = some (.int .i64 (S.id : Nat)) ∧ W.cell? ⟨g, 2, none⟩ = some (.int .i64 S.term) ∧ W.cell? ⟨w.heap.size, 1, none⟩ = some (.int .i64 frm)) := Lib.hid (fun W hW => by
    have h := HS.out.below (HB1.out.1.trans (hW.mono HB1.out.1.size))
    exact ⟨h.c0, h.c2, (HB1.out.2.below hW HB1.out.2.lt).cell 1⟩)
  refine wp_region_plan (.q 0 (.q 1 (.q 2 (.q 3 (.q 4 (.q 5 (.q 6 (.q 7 (.q 8 (.q 9 (.q 10 (.q 11 (.q 12 (.q 13 (.q 14 (.q 15 (.a1 16 (.a1 17 (.q 18 .fin))))))))))))))))))) 17 (fun W => Below w1.heap.size w1 W) (by kernel_rfl) rfl (by kernel_rfl) (Below.refl _ _).drew ?_
  refine wpPlan_q rfl rfl rfl ?_; intro K hK
  go_big_quiet_op
  first | go_big_quiet_on | (refine ⟨_, fun _ _ => rfl, ?_⟩; go_big_quiet_on)
  refine wpPlan_q rfl rfl rfl ?_; intro K hK
  go_big_quiet_op
  first | go_big_quiet_on | (refine ⟨_, fun _ _ => rfl, ?_⟩; go_big_quiet_on)
  refine wpPlan_q rfl rfl rfl ?_; intro K hK
  go_big_quiet_op
  first | go_big_quiet_on | (refine ⟨_, fun _ _ => rfl, ?_⟩; go_big_quiet_on)
  refine wpPlan_q rfl rfl rfl ?_; intro K hK
  go_big_quiet_op
  first | go_big_quiet_on | (refine ⟨_, fun _ _ => rfl, ?_⟩; go_big_quiet_on)
  refine wpPlan_q rfl rfl rfl ?_; intro K hK
  go_big_quiet_op
  first | go_big_quiet_on | (refine ⟨_, fun _ _ => rfl, ?_⟩; go_big_quiet_on)
  refine wpPlan_q rfl rfl rfl ?_; intro K hK
  refine ⟨(.int .i64 (S.id : Nat)), fun W hW => ?_, ?_⟩
  · have q0 := (HC.out W hW).1
    unfold Oper.quietAt Oper.quietUpon
    simp [go_sem, q0]
  refine hK _ ?_
  clear hK K
  try simp only [Act.put, List.setIfInBounds_toArray, List.set_cons_succ, List.set_cons_zero]
  refine wpPlan_q rfl rfl rfl ?_; intro K hK
  go_big_quiet_op
  first | go_big_quiet_on | (refine ⟨_, fun _ _ => rfl, ?_⟩; go_big_quiet_on)
  refine wpPlan_q rfl rfl rfl ?_; intro K hK
  refine ⟨(.int .i64 frm), fun W hW => ?_, ?_⟩
  · have q0 := (HC.out W hW).2.2
    unfold Oper.quietAt Oper.quietUpon
    simp [go_sem, q0]
  refine hK _ ?_
  clear hK K
  try simp only [Act.put, List.setIfInBounds_toArray, List.set_cons_succ, List.set_cons_zero]
  refine wpPlan_q rfl rfl rfl ?_; intro K hK
  go_big_quiet_op
  first | go_big_quiet_on | (refine ⟨_, fun _ _ => rfl, ?_⟩; go_big_quiet_on)
  refine wpPlan_q rfl rfl rfl ?_; intro K hK
  go_big_quiet_op
  first | go_big_quiet_on | (refine ⟨_, fun _ _ => rfl, ?_⟩; go_big_quiet_on)
  refine wpPlan_q rfl rfl rfl ?_; intro K hK
  go_big_quiet_op
  first | go_big_quiet_on | (refine ⟨_, fun _ _ => rfl, ?_⟩; go_big_quiet_on)
  refine wpPlan_q rfl rfl rfl ?_; intro K hK
  go_big_quiet_op
  first | go_big_quiet_on | (refine ⟨_, fun _ _ => rfl, ?_⟩; go_big_quiet_on)
  refine wpPlan_q rfl rfl rfl ?_; intro K hK
  refine ⟨(.int .i64 S.term), fun W hW => ?_, ?_⟩
  · have q0 := (HC.out W hW).2.1
    unfold Oper.quietAt Oper.quietUpon
    simp [go_sem, q0]
  refine hK _ ?_
  clear hK K
  try simp only [Act.put, List.setIfInBounds_toArray, List.set_cons_succ, List.set_cons_zero]
  refine wpPlan_q rfl rfl rfl ?_; intro K hK
  go_big_quiet_op
  first | go_big_quiet_on | (refine ⟨_, fun _ _ => rfl, ?_⟩; go_big_quiet_on)
  refine wpPlan_q rfl rfl rfl ?_; intro K hK
  go_big_quiet_op
  first | go_big_quiet_on | (refine ⟨_, fun _ _ => rfl, ?_⟩; go_big_quiet_on)
  refine wpPlan_q rfl rfl rfl ?_; intro K hK
  go_big_quiet_op
  first | go_big_quiet_on | (refine ⟨_, fun _ _ => rfl, ?_⟩; go_big_quiet_on)
  refine wpPlan_act true rfl rfl rfl ?_; intro K hK
  go_simp
  refine hK _ _ (fun _ => (Below.refl w1.heap.size w1).drew.alloc (Nat.le_refl _) _) ?_
  clear hK K
  try simp only [Act.put, List.setIfInBounds_toArray, List.set_cons_succ, List.set_cons_zero]
  refine wpPlan_act false rfl rfl rfl ?_; intro K hK
  refine wp_app_msg (.tmp 12) (.tmp 28) rfl w1.heap.size w1.heap.size 0 0 none [] (S.ans ⟨mk, frm, to, term, mi, logTerm, ents, commit, mok⟩ kind index ok, none, 0) rfl (World.ownsRow_nil _ _ _ _) rfl (heap_alloc_new w1.drew _) (by omega) (by simp) ?_
  intro A4 c4 w4 ho4 hg4
  have hm4 : MsR w4 w1.heap.size A4 1 c4 [S.ans ⟨mk, frm, to, term, mi, logTerm, ents, commit, mok⟩ kind index ok] := MsR.one (x := (S.ans ⟨mk, frm, to, term, mi, logTerm, ents, commit, mok⟩ kind index ok, none, 0)) ho4 (World.ownsRow_nil _ _ _ _)
  have hb4 : Below w1.heap.size w1 w4 := ((Below.refl w1.heap.size w1).drew.alloc (Nat.le_refl _) _).grown hg4 (by simp) (fun r hr => by cases hr)
  have H4 : Hid (MsR w4 w.heap.size A4 1 c4 [S.ans ⟨mk, frm, to, term, mi, logTerm, ents, commit, mok⟩ kind index ok] ∧ Below w.heap.size w w4) := Lib.hid ⟨hm4.mono HB1.out.1.size, HB1.out.1.trans (hb4.mono HB1.out.1.size)⟩
  clear ho4 hg4 hm4 hb4
  refine hK _ _ (fun h => by cases h) ?_
  clear hK K
  try simp only [Act.put, List.setIfInBounds_toArray, List.set_cons_succ, List.set_cons_zero]
  refine wpPlan_p rfl rfl rfl ?_; intro K hK
  go_big_quiet_op
  first | go_big_quiet_on | (refine ⟨_, fun _ _ => rfl, ?_⟩; go_big_quiet_on)
  refine wpPlan_fin ?_
  go_wp2_with fail
  go_ret
  exact ⟨⟨A4, c4, rfl, H4.out.1⟩, H4.out.2⟩
end Go.Proofs.Ytjodglepaeomiaa
