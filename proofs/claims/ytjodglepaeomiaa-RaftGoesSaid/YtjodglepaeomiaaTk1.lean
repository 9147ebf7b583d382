/- Contract of Tick's closure. -/
import Derived.Test.YtjodglepaeomiaaOth
namespace Go.Proofs.Ytjodglepaeomiaa
open Go.RowKit

set_option maxRecDepth 100000 in
set_option maxHeartbeats 4000000 in
theorem ask_any (S : Sv) (k g bx : Nat) (A : Option Addr) (c : Nat) (w : World) (hS : SvM w g S A c) (hn : S.log.length ≤ 4096) (hb : w.cell? ⟨bx, 0, none⟩ = some (.pointer (some ⟨g, 0, none⟩))) (hbl : bx < w.heap.size) :
    Calls Try.prog 39 #[.int .i64 (k : Nat), .pointer (some ⟨bx, 0, none⟩)] w (SendPost w (S.ask k)) := by
  have HS := Lib.hid hS
  obtain ⟨n, hnn⟩ : ∃ n, n = S.log.length := ⟨_, rfl⟩
  have HN := Lib.hid hnn
  have HBX : Hid (Below w.heap.size w (w.alloc (.cells #[.int .u8 0, .int .i64 0, .int .i64 0, .int .i64 0, .int .i64 0, .int .i64 0, .slice none 0 0, .int .i64 0, .bool false] 34))) := (Below.refl _ w).alloc (Nat.le_refl _) _
  have HZB : Hid (Blk (w.alloc (.cells #[.int .u8 0, .int .i64 0, .int .i64 0, .int .i64 0, .int .i64 0, .int .i64 0, .slice none 0 0, .int .i64 0, .bool false] 34)) w.heap.size 34 #[.int .u8 0, .int .i64 0, .int .i64 0, .int .i64 0, .int .i64 0, .int .i64 0, .slice none 0 0, .int .i64 0, .bool false]) := Blk.new _ _ _
  have HB := Lib.hid (And.intro hb hbl)
  rw [← hnn] at hn
  clear hS hnn hb hbl
  go_enter Try.func39, Try.ntmps39
  go_wp2_with fail
  have hsz : (w.alloc (.cells #[.int .u8 0, .int .i64 0, .int .i64 0, .int .i64 0, .int .i64 0, .int .i64 0, .slice none 0 0, .int .i64 0, .bool false] 34)).heap.size = w.heap.size + 1 := by simp
  generalize w.alloc (.cells #[.int .u8 0, .int .i64 0, .int .i64 0, .int .i64 0, .int .i64 0, .int .i64 0, .slice none 0 0, .int .i64 0, .bool false] 34) = w0 at *
  have HM : Hid (∀ W, Below (w.heap.size + 1) w0 W → SvM W g S A c) := fun W hW => HS.out.below (HBX.out.trans (hW.mono (by omega)))
  have HC : Hid (∀ W, Below (w.heap.size + 1) w0 W → W.cell? ⟨bx, 0, none⟩ = some (.pointer (some ⟨g, 0, none⟩)) ∧ W.cell? ⟨g, 0, none⟩ = some (.int .i64 (S.id : Nat)) ∧ W.cell? ⟨g, 2, none⟩ = some (.int .i64 S.term)) := fun W hW =>
    ⟨(World.cell?_of_block ((HBX.out.trans (hW.mono (by omega))).block bx HB.out.2)).trans HB.out.1, (HM.out W hW).c0, (HM.out W hW).c2⟩
  have HLA : Hid (∀ W, Below (w.heap.size + 1) w0 W → Calls Try.prog 40 #[.pointer (some ⟨g, 0, none⟩)] W fun e w' => e = .returned (.int .i64 (n : Nat)) ∧ w' = W) := fun W hW => last_any W g n c A (by rw [HN.out]; exact (HM.out W hW).c4)
  have HTM : Hid (∀ W, Below (w.heap.size + 1) w0 W → Calls Try.prog 41 #[.pointer (some ⟨g, 0, none⟩), .int .i64 (n : Nat)] W fun e w' => e = .returned (.int .i64 (termAt S.log n)) ∧ w' = W) := fun W hW => term_any (HM.out W hW) n (by rw [← HN.out]; omega) (by rw [← HN.out]; omega)
  refine wp_region_plan (.q 0 (.q 1 (.q 2 (.q 3 (.q 4 (.q 5 (.q 6 (.q 7 (.q 8 (.q 9 (.q 10 (.q 12 (.q 13 (.a1 11 (.a1 14 (.a1 15 (.q 16 (.a1 17 .fin)))))))))))))))))) 17 (fun W => Below (w.heap.size + 1) w0 W) (by kernel_rfl) rfl (by kernel_rfl) (Below.refl _ _).drew ?_
  refine wpPlan_q rfl rfl rfl ?_; intro K hK
  refine ⟨(.pointer (some ⟨g, 0, none⟩)), fun W hW => ?_, ?_⟩
  · have q0 := (HC.out W hW).1
    unfold Oper.quietAt Oper.quietUpon
    simp [go_sem, q0]
  refine hK _ ?_
  clear hK K
  try simp only [Act.put, List.setIfInBounds_toArray, List.set_cons_succ, List.set_cons_zero]
  refine wpPlan_q rfl rfl rfl ?_; intro K hK
  go_big_quiet_op
  first | go_big_quiet_on | (refine ⟨_, fun _ _ => rfl, ?_⟩; go_big_quiet_on)
  refine wpPlan_q rfl rfl rfl ?_; intro K hK
  go_big_quiet_op
  first | go_big_quiet_on | (refine ⟨_, fun _ _ => rfl, ?_⟩; go_big_quiet_on)
  refine wpPlan_q rfl rfl rfl ?_; intro K hK
  refine ⟨(.int .i64 (S.id : Nat)), fun W hW => ?_, ?_⟩
  · have q0 := (HC.out W hW).2.1
    unfold Oper.quietAt Oper.quietUpon
    simp [go_sem, q0]
  refine hK _ ?_
  clear hK K
  try simp only [Act.put, List.setIfInBounds_toArray, List.set_cons_succ, List.set_cons_zero]
  refine wpPlan_q rfl rfl rfl ?_; intro K hK
  go_big_quiet_op
  first | go_big_quiet_on | (refine ⟨_, fun _ _ => rfl, ?_⟩; go_big_quiet_on)
  refine wpPlan_q rfl rfl rfl ?_; intro K hK
  refine ⟨(.pointer (some ⟨g, 0, none⟩)), fun W hW => ?_, ?_⟩
  · have q0 := (HC.out W hW).1
    unfold Oper.quietAt Oper.quietUpon
    simp [go_sem, q0]
  refine hK _ ?_
  clear hK K
  try simp only [Act.put, List.setIfInBounds_toArray, List.set_cons_succ, List.set_cons_zero]
  refine wpPlan_q rfl rfl rfl ?_; intro K hK
  go_big_quiet_op
  first | go_big_quiet_on | (refine ⟨_, fun _ _ => rfl, ?_⟩; go_big_quiet_on)
  refine wpPlan_q rfl rfl rfl ?_; intro K hK
  go_big_quiet_op
  first | go_big_quiet_on | (refine ⟨_, fun _ _ => rfl, ?_⟩; go_big_quiet_on)
  refine wpPlan_q rfl rfl rfl ?_; intro K hK
  go_big_quiet_op
  first | go_big_quiet_on | (refine ⟨_, fun _ _ => rfl, ?_⟩; go_big_quiet_on)
  refine wpPlan_q rfl rfl rfl ?_; intro K hK
  refine ⟨(.int .i64 S.term), fun W hW => ?_, ?_⟩
  · have q0 := (HC.out W hW).2.2
    unfold Oper.quietAt Oper.quietUpon
    simp [go_sem, q0]
  refine hK _ ?_
  clear hK K
  try simp only [Act.put, List.setIfInBounds_toArray, List.set_cons_succ, List.set_cons_zero]
  refine wpPlan_q rfl rfl rfl ?_; intro K hK
  refine ⟨(.pointer (some ⟨g, 0, none⟩)), fun W hW => ?_, ?_⟩
  · have q0 := (HC.out W hW).1
    unfold Oper.quietAt Oper.quietUpon
    simp [go_sem, q0]
  refine hK _ ?_
  clear hK K
  try simp only [Act.put, List.setIfInBounds_toArray, List.set_cons_succ, List.set_cons_zero]
  refine wpPlan_q rfl rfl rfl ?_; intro K hK
  refine ⟨(.pointer (some ⟨g, 0, none⟩)), fun W hW => ?_, ?_⟩
  · have q0 := (HC.out W hW).1
    unfold Oper.quietAt Oper.quietUpon
    simp [go_sem, q0]
  refine hK _ ?_
  clear hK K
  try simp only [Act.put, List.setIfInBounds_toArray, List.set_cons_succ, List.set_cons_zero]
  refine wpPlan_q rfl rfl rfl ?_; intro K hK
  refine ⟨(.pointer (some ⟨g, 0, none⟩)), fun W hW => ?_, ?_⟩
  · have q0 := (HC.out W hW).1
    unfold Oper.quietAt Oper.quietUpon
    simp [go_sem, q0]
  refine hK _ ?_
  clear hK K
  try simp only [Act.put, List.setIfInBounds_toArray, List.set_cons_succ, List.set_cons_zero]
  refine wpPlan_act true rfl rfl rfl ?_; intro K hK
  go_simp
  refine (HLA.out w0.drew (Below.refl _ _).drew).mono ?_
  rintro e w2 ⟨rfl, hw2⟩
  rw [hw2]
  clear hw2 w2
  refine hK _ _ (fun _ => (Below.refl _ _).drew) ?_
  clear hK K
  try simp only [Act.put, List.setIfInBounds_toArray, List.set_cons_succ, List.set_cons_zero]
  refine wpPlan_act true rfl rfl rfl ?_; intro K hK
  go_simp
  refine (HLA.out w0.drew (Below.refl _ _).drew).mono ?_
  rintro e w2 ⟨rfl, hw2⟩
  rw [hw2]
  clear hw2 w2
  refine hK _ _ (fun _ => (Below.refl _ _).drew) ?_
  clear hK K
  try simp only [Act.put, List.setIfInBounds_toArray, List.set_cons_succ, List.set_cons_zero]
  refine wpPlan_act true rfl rfl rfl ?_; intro K hK
  go_simp
  refine (HTM.out w0.drew (Below.refl _ _).drew).mono ?_
  rintro e w2 ⟨rfl, hw2⟩
  rw [hw2]
  clear hw2 w2
  refine hK _ _ (fun _ => (Below.refl _ _).drew) ?_
  clear hK K
  try simp only [Act.put, List.setIfInBounds_toArray, List.set_cons_succ, List.set_cons_zero]
  refine wpPlan_q rfl rfl rfl ?_; intro K hK
  go_big_quiet_op
  first | go_big_quiet_on | (refine ⟨_, fun _ _ => rfl, ?_⟩; go_big_quiet_on)
  refine wpPlan_act false rfl rfl rfl ?_; intro K hK
  refine wp_store_row 34 (.tmp 3) (.tmp 20) rfl w.heap.size #[.int .u8 1, .int .i64 (S.id : Nat), .int .i64 (k : Nat), .int .i64 S.term, .int .i64 (n : Nat), .int .i64 (termAt S.log n), .slice none 0 0, .int .i64 0, .bool false] rfl rfl 34 _ HZB.out.drew (by kernel_rfl) (by kernel_rfl) (by kernel_rfl) ?_
  refine hK _ _ (fun h => by cases h) ?_
  clear hK K
  try simp only [Act.put, List.setIfInBounds_toArray, List.set_cons_succ, List.set_cons_zero]
  refine wpPlan_fin ?_
  go_wp2_with fail
  refine bodyPost_ret (results_row (ty := 34) rfl rfl (setRow_heap w0.drew w.heap.size _ _ 34 (0, 0) HZB.out) Try.underlying34 rfl (by kernel_rfl)) rfl ?_
  have e1 : S.ask k = ⟨1, S.id, k, S.term, ((n : Nat) : Int), termAt S.log n, [], 0, false⟩ := by
    unfold Sv.ask
    rw [← HN.out]
  rw [e1]
  refine ⟨none, 0, rfl, World.ownsRow_nil _ _ _ _, ?_⟩
  exact ((Chg.refl (fun b => b = w.heap.size) w0.drew).setRow rfl _).below HBX.out.drew (show w.heap.size ≤ w0.heap.size by omega) (fun b hb => by omega)
end Go.Proofs.Ytjodglepaeomiaa
