/- Contracts of Saved, Log. -/
import Derived.Test.YtjodglepaeomiaaNew
namespace Go.Proofs.Ytjodglepaeomiaa
open Go.RowKit

/-- What Saved leaves. -/
def SavedPost (w : World) (t v : Int) (L : List Ent) (e : Ending) (w' : World) : Prop :=
  ∃ (A' : Option Addr) (c' : Nat), e = .returned (.agg #[.int .i64 t, .int .i64 v, .slice A' L.length c']) ∧ w'.ownsRow w.heap.size 39 2 (.slice A' L.length c') L.length (rowOf ecell L) ∧ Below w.heap.size w w'
set_option maxRecDepth 100000 in
set_option maxHeartbeats 4000000 in
theorem saved_any (S : Sv) (g : Nat) (A : Option Addr) (c : Nat) (w : World) (hS : SvM w g S A c) (hn : 0 < S.n) (hl : S.log.length ≤ 4096) :
    Calls Try.prog 31 #[.pointer (some ⟨g, 0, none⟩)] w (SavedPost w S.term S.vote S.log) := by
  have HS := Lib.hid hS
  have HBX : Hid (Below w.heap.size w (w.alloc (.cells #[.int .i64 0, .int .i64 0, .slice none 0 0] 29))) := (Below.refl _ w).alloc (Nat.le_refl _) _
  have HMD := Lib.hid (made_any (w.alloc (.cells #[.int .i64 0, .int .i64 0, .slice none 0 0] 29)) g S.n (hS.below HBX.out).c1 hn)
  have hA : A = none → c = 0 := fun h => by
    rcases hS.log.2 with ⟨h2, _⟩ | ⟨g', cap, cur, h2, _⟩
    · injection h2
    · rw [h] at h2; injection h2 with h2; cases h2
  have HCL : Hid (∀ W, Below w.heap.size w W → Calls Try.prog 34 #[.slice A S.log.length c] W (ClonePost W S.log)) := Lib.hid (fun W hW => clone_any A c S.log W (hS.below hW).rd (by omega) hA)
  obtain ⟨l, hll⟩ : ∃ l, l = S.log.length := ⟨_, rfl⟩
  have HLL := Lib.hid hll
  unfold ClonePost at HCL
  unfold SavedPost
  rw [← hll] at HCL hl ⊢
  have hgl := hS.lt
  clear hS hA hll hn
  go_enter Try.func31, Try.ntmps31
  go_wp2_with fail
  refine HMD.out.mono ?_
  rintro e w1 ⟨rfl, hw1⟩
  rw [hw1]
  clear hw1 w1 HMD
  have HBK : Hid (Blk (w.alloc (.cells #[.int .i64 0, .int .i64 0, .slice none 0 0] 29)) w.heap.size 29 #[.int .i64 0, .int .i64 0, .slice none 0 0]) := Lib.hid (Blk.new _ _ _)
  have hsz : (w.alloc (.cells #[.int .i64 0, .int .i64 0, .slice none 0 0] 29)).heap.size = w.heap.size + 1 := by simp
  generalize w.alloc (.cells #[.int .i64 0, .int .i64 0, .slice none 0 0] 29) = w0 at *
  have HC : Hid (∀ W, Below w0.heap.size w0 W → W.cell? ⟨g, 2, none⟩ = some (.int .i64 S.term) ∧ W.cell? ⟨g, 3, none⟩ = some (.int .i64 S.vote) ∧ W.cell? ⟨g, 4, none⟩ = some (.slice A l c)) := Lib.hid (fun W hW => by
    have h := HS.out.below (HBX.out.trans (hW.mono HBX.out.size))
    exact ⟨h.c2, h.c3, by rw [HLL.out]; exact h.c4⟩)
  go_wp2_with fail
  refine wp_region_plan (.q 0 (.q 1 (.q 2 (.q 3 (.q 4 (.q 5 (.q 6 (.q 7 (.q 8 (.q 9 (.q 10 (.q 11 (.q 12 (.q 13 (.q 14 (.a1 15 (.q 16 (.a1 17 .fin)))))))))))))))))) 17 (fun W => Below w0.heap.size w0 W) (by kernel_rfl) rfl (by kernel_rfl) (Below.refl _ _).drew ?_
  refine wpPlan_q rfl rfl rfl ?_; intro K hK
  go_big_quiet_op
  first | go_big_quiet_on | (refine ⟨_, fun _ _ => rfl, ?_⟩; go_big_quiet_on)
  refine wpPlan_q rfl rfl rfl ?_; intro K hK
  go_big_quiet_op
  first | go_big_quiet_on | (refine ⟨_, fun _ _ => rfl, ?_⟩; go_big_quiet_on)
  refine wpPlan_q rfl rfl rfl ?_; intro K hK
  go_big_quiet_op
  first | go_big_quiet_on | (refine ⟨_, fun _ _ => rfl, ?_⟩; go_big_quiet_on)
  refine wpPlan_q rfl rfl rfl ?_; intro K hK
  go_big_quiet_op
  first | go_big_quiet_on | (refine ⟨_, fun _ _ => rfl, ?_⟩; go_big_quiet_on)
  refine wpPlan_q rfl rfl rfl ?_; intro K hK
  refine ⟨(.int .i64 S.term), fun W hW => ?_, ?_⟩
  · have q0 := (HC.out W hW).1
    unfold Oper.quietAt Oper.quietUpon
    simp [go_sem, q0]
  refine hK _ ?_
  clear hK K
  try simp only [Act.put, List.setIfInBounds_toArray, List.set_cons_succ, List.set_cons_zero]
  refine wpPlan_q rfl rfl rfl ?_; intro K hK
  go_big_quiet_op
  first | go_big_quiet_on | (refine ⟨_, fun _ _ => rfl, ?_⟩; go_big_quiet_on)
  refine wpPlan_q rfl rfl rfl ?_; intro K hK
  go_big_quiet_op
  first | go_big_quiet_on | (refine ⟨_, fun _ _ => rfl, ?_⟩; go_big_quiet_on)
  refine wpPlan_q rfl rfl rfl ?_; intro K hK
  go_big_quiet_op
  first | go_big_quiet_on | (refine ⟨_, fun _ _ => rfl, ?_⟩; go_big_quiet_on)
  refine wpPlan_q rfl rfl rfl ?_; intro K hK
  go_big_quiet_op
  first | go_big_quiet_on | (refine ⟨_, fun _ _ => rfl, ?_⟩; go_big_quiet_on)
  refine wpPlan_q rfl rfl rfl ?_; intro K hK
  refine ⟨(.int .i64 S.vote), fun W hW => ?_, ?_⟩
  · have q0 := (HC.out W hW).2.1
    unfold Oper.quietAt Oper.quietUpon
    simp [go_sem, q0]
  refine hK _ ?_
  clear hK K
  try simp only [Act.put, List.setIfInBounds_toArray, List.set_cons_succ, List.set_cons_zero]
  refine wpPlan_q rfl rfl rfl ?_; intro K hK
  go_big_quiet_op
  first | go_big_quiet_on | (refine ⟨_, fun _ _ => rfl, ?_⟩; go_big_quiet_on)
  refine wpPlan_q rfl rfl rfl ?_; intro K hK
  go_big_quiet_op
  first | go_big_quiet_on | (refine ⟨_, fun _ _ => rfl, ?_⟩; go_big_quiet_on)
  refine wpPlan_q rfl rfl rfl ?_; intro K hK
  go_big_quiet_op
  first | go_big_quiet_on | (refine ⟨_, fun _ _ => rfl, ?_⟩; go_big_quiet_on)
  refine wpPlan_q rfl rfl rfl ?_; intro K hK
  go_big_quiet_op
  first | go_big_quiet_on | (refine ⟨_, fun _ _ => rfl, ?_⟩; go_big_quiet_on)
  refine wpPlan_q rfl rfl rfl ?_; intro K hK
  refine ⟨(.slice A l c), fun W hW => ?_, ?_⟩
  · have q0 := (HC.out W hW).2.2
    unfold Oper.quietAt Oper.quietUpon
    simp [go_sem, q0]
  refine hK _ ?_
  clear hK K
  try simp only [Act.put, List.setIfInBounds_toArray, List.set_cons_succ, List.set_cons_zero]
  refine wpPlan_act true rfl rfl rfl ?_; intro K hK
  go_simp
  refine (HCL.out _ (HBX.out.trans ((Below.refl w0.heap.size w0).drew.mono HBX.out.size))).mono ?_
  rintro e w2 ⟨⟨A2, c2, rfl, ho2⟩, hb2⟩
  have H2 : Hid (w2.ownsRow w0.heap.size 39 2 (.slice A2 l c2) l (rowOf ecell S.log) ∧ Below w0.heap.size w0 w2) := Lib.hid ⟨ho2, (Below.refl w0.heap.size w0).drew.trans hb2⟩
  clear ho2 hb2
  refine hK _ _ (fun _ => H2.out.2) ?_
  clear hK K
  try simp only [Act.put, List.setIfInBounds_toArray, List.set_cons_succ, List.set_cons_zero]
  refine wpPlan_q rfl rfl rfl ?_; intro K hK
  go_big_quiet_op
  first | go_big_quiet_on | (refine ⟨_, fun _ _ => rfl, ?_⟩; go_big_quiet_on)
  refine wpPlan_act false rfl rfl rfl ?_; intro K hK
  refine wp_store_row 29 (.tmp 2) (.tmp 23) rfl w.heap.size #[.int .i64 S.term, .int .i64 S.vote, .slice A2 l c2] rfl rfl 29 _ (HBK.out.below H2.out.2 HBK.out.lt) (by kernel_rfl) (by kernel_rfl) (by kernel_rfl) ?_
  refine hK _ _ (fun h => by cases h) ?_
  clear hK K
  try simp only [Act.put, List.setIfInBounds_toArray, List.set_cons_succ, List.set_cons_zero]
  refine wpPlan_fin ?_
  go_wp2_with fail
  have hbk3 := HBK.out.below H2.out.2 HBK.out.lt
  refine bodyPost_ret (results_row (ty := 29) rfl rfl (setRow_heap w2 w.heap.size _ _ 29 (0, 0) hbk3) Try.underlying29 rfl (by kernel_rfl)) rfl ?_
  have hch : Chg (fun b => b = w.heap.size) w2 (w2.setRow w.heap.size #[.int .i64 S.term, .int .i64 S.vote, .slice A2 l c2]) := Chg.setRow (T := fun b => b = w.heap.size) (Chg.refl _ _) rfl _
  refine ⟨A2, c2, rfl, ?_, Chg.below (HBX.out.trans (H2.out.2.mono HBX.out.size)) hch (HBX.out.trans (H2.out.2.mono HBX.out.size)).size (fun k hk => Nat.le_of_eq hk.symm)⟩
  exact own_chg (own_at H2.out.1 (fun g' hg' => by have := (World.ownsRow.lt H2.out.1 g' hg').1; omega)) hch (fun g' hg' he => by have := (World.ownsRow.lt H2.out.1 g' hg').1; omega)

set_option maxRecDepth 100000 in
theorem saved_none (g : Option Nat) (w : World) (h : ∀ b, g = some b → w.cell? ⟨b, 1, none⟩ = some (.int .i64 0) ∧ b < w.heap.size) :
    Calls Try.prog 31 #[.pointer (g.map fun b => ⟨b, 0, none⟩)] w (SavedPost w 0 0 []) := by
  have HBX : Hid (Below w.heap.size w (w.alloc (.cells #[.int .i64 0, .int .i64 0, .slice none 0 0] 29))) := (Below.refl _ w).alloc (Nat.le_refl _) _
  have HBK : Hid (Blk (w.alloc (.cells #[.int .i64 0, .int .i64 0, .slice none 0 0] 29)) w.heap.size 29 #[.int .i64 0, .int .i64 0, .slice none 0 0]) := Lib.hid (Blk.new _ _ _)
  have HMD : Hid (Calls Try.prog 35 #[.pointer (g.map fun b => ⟨b, 0, none⟩)] (w.alloc (.cells #[.int .i64 0, .int .i64 0, .slice none 0 0] 29)) fun e w' => e = .returned (.bool false) ∧ w' = w.alloc (.cells #[.int .i64 0, .int .i64 0, .slice none 0 0] 29)) := by
    cases g with
    | none => exact Lib.hid (made_nil _)
    | some b => exact Lib.hid (made_zero _ b ((World.cell?_of_block (HBX.out.block b (h b rfl).2)).trans (h b rfl).1))
  unfold SavedPost
  generalize (g.map fun b => (⟨b, 0, none⟩ : Addr)) = p at *
  clear h
  go_enter Try.func31, Try.ntmps31
  go_wp2_with fail
  refine HMD.out.mono ?_
  rintro e w1 ⟨rfl, hw1⟩
  rw [hw1]
  clear hw1 w1 HMD
  go_wp2_with (first | (refine wpList_store_row rfl 29 (.tmp 2) (.tmp 6) rfl w.heap.size #[.int .i64 0, .int .i64 0, .slice none 0 0] rfl rfl 29 #[.int .i64 0, .int .i64 0, .slice none 0 0] HBK.out (by kernel_rfl) rfl (by kernel_rfl) ?_; rw [World.setRow_alloc_new]) | fail)
  refine bodyPost_ret (results_row (ty := 29) rfl rfl HBK.out Try.underlying29 rfl (by kernel_rfl)) rfl ?_
  exact ⟨none, 0, rfl, World.ownsRow_nil _ _ _ _, HBX.out⟩
/-- What Log leaves. -/
def LogPost (w : World) (L : List Ent) (e : Ending) (w' : World) : Prop :=
  ∃ (A' : Option Addr) (c' : Nat), e = .returned (.slice A' L.length c') ∧ w'.ownsRow w.heap.size 39 2 (.slice A' L.length c') L.length (rowOf ecell L) ∧ Below w.heap.size w w'
set_option maxRecDepth 100000 in
theorem log_of (p : Option Addr) (t v : Int) (L : List Ent) (w : World) (h : Calls Try.prog 31 #[.pointer p] w (SavedPost w t v L)) : Calls Try.prog 23 #[.pointer p] w (LogPost w L) := by
  have H := Lib.hid h
  unfold LogPost
  obtain ⟨l, hll⟩ : ∃ l, l = L.length := ⟨_, rfl⟩
  unfold SavedPost at H
  rw [← hll] at H ⊢
  clear h hll
  have hfd : ∀ (w : World) (A' : Option Addr) (c' : Nat), (Instr.field 29 (.agg #[.int .i64 t, .int .i64 v, .slice A' l c']) 2).run Try.prog w = .ok (.slice A' l c') w := fun _ _ _ => by kernel_rfl
  go_enter Try.func23, Try.ntmps23
  go_wp2_with fail
  refine H.out.mono ?_
  rintro e w2 ⟨A', c', rfl, ho, hb⟩
  have HH := Lib.hid (And.intro ho hb)
  clear ho hb
  go_wp2_with fail
  go_ret
  exact ⟨A', c', rfl, HH.out.1, HH.out.2⟩
end Go.Proofs.Ytjodglepaeomiaa
