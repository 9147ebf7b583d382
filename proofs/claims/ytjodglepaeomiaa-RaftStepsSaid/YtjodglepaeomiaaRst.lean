/- Contracts of the law's told and one. -/
import Derived.Test.YtjodglepaeomiaaRac
namespace Go.Proofs.Ytjodglepaeomiaa
open Go.RowKit

set_option maxRecDepth 100000 in
set_option maxHeartbeats 8000000 in
theorem told_two (S : Sv) (g gd : Nat) (A Ad : Option Addr) (c cd : Nat) (V : List Bool) (P : List (Nat × Nat)) (w : World) (hp : SvM w g S A c) (hq : RvM w gd S Ad cd V P) (hok : S.Ok) :
    Calls Try.prog 30 #[.pointer (some ⟨g, 0, none⟩), .pointer (some ⟨gd, 0, none⟩)] w fun e w' => e = .returned (.bool true) ∧ Below w.heap.size w w' := by
  have hn0 : 0 < S.n := by have := hok.id; omega
  have HSV := Lib.hid (saved_any S g A c w hp hn0 hok.len)
  have HLG := Lib.hid (fun W (hb : Below w.heap.size w W) => log_of (some ⟨g, 0, none⟩) S.term S.vote S.log W (saved_any S g A c W (hp.below hb) hn0 hok.len))
  have HM := Lib.hid (And.intro hp hq)
  obtain ⟨l, hll⟩ : ∃ l, l = S.log.length := ⟨_, rfl⟩
  have HLL := Lib.hid hll
  have hl9 : l ≤ 4096 := by rw [hll]; exact hok.len
  unfold SavedPost at HSV
  unfold LogPost at HLG
  rw [← hll] at HSV HLG
  clear hp hq hok hll
  go_enter Try.func30, Try.ntmps30
  go_wp2_with fail
  refine HSV.out.mono ?_
  rintro e w1 ⟨A1, c1, rfl, ho1, hb1⟩
  have H1 := Lib.hid (And.intro ho1 hb1)
  have HB0 : Hid (Blk (w1.alloc (.cells #[.int .i64 0, .int .i64 0, .slice none 0 0] 29)) w1.heap.size 29 #[.int .i64 0, .int .i64 0, .slice none 0 0]) := Lib.hid (Blk.new w1 _ _)
  clear ho1 hb1 HSV
  go_wp2_with (first | (refine wpList_store_row rfl 29 (.tmp 5) (.tmp 9) rfl w1.heap.size #[.int .i64 S.term, .int .i64 S.vote, .slice A1 l c1] rfl rfl 29 #[.int .i64 0, .int .i64 0, .slice none 0 0] HB0.out (by kernel_rfl) rfl (by kernel_rfl) ?_; rw [World.setRow_alloc_new]) | fail)
  have H2 : Hid (Below w.heap.size w (w1.alloc (.cells #[.int .i64 S.term, .int .i64 S.vote, .slice A1 l c1] 29)) ∧ Blk (w1.alloc (.cells #[.int .i64 S.term, .int .i64 S.vote, .slice A1 l c1] 29)) w1.heap.size 29 #[.int .i64 S.term, .int .i64 S.vote, .slice A1 l c1] ∧ (w1.alloc (.cells #[.int .i64 S.term, .int .i64 S.vote, .slice A1 l c1] 29)).ownsRow w.heap.size 39 2 (.slice A1 l c1) l (rowOf ecell S.log)) := Lib.hid ⟨H1.out.2.alloc H1.out.2.size _, Blk.new _ _ _, own_below H1.out.1 ((Below.refl _ _).alloc (Nat.le_refl _) _)⟩
  have HW1 : Hid (w.heap.size ≤ w1.heap.size) := Lib.hid H1.out.2.size
  generalize w1.heap.size = b1 at *
  generalize w1.alloc (.cells #[.int .i64 S.term, .int .i64 S.vote, .slice A1 l c1] 29) = w2 at *
  clear H1 HB0
  refine (HLG.out w2 H2.out.1).mono ?_
  rintro e w3 ⟨A2, c2, rfl, ho3, hb3⟩
  have H3 : Hid (Below w.heap.size w w3 ∧ Blk w3 b1 29 #[.int .i64 S.term, .int .i64 S.vote, .slice A1 l c1] ∧ w3.ownsRow w.heap.size 39 2 (.slice A1 l c1) l (rowOf ecell S.log) ∧ w3.ownsRow w2.heap.size 39 2 (.slice A2 l c2) l (rowOf ecell S.log)) := Lib.hid ⟨H2.out.1.trans (hb3.mono H2.out.1.size), H2.out.2.1.below hb3 H2.out.2.1.lt, own_below H2.out.2.2 hb3, ho3⟩
  have HSZ : Hid (w.heap.size ≤ w2.heap.size) := Lib.hid H2.out.1.size
  clear ho3 hb3 HLG H2
  go_wp2_with fail
  have HC3 : Hid (∀ W, Below w3.heap.size w3 W → (W.cell? ⟨b1, 0, none⟩ = some (.int .i64 S.term) ∧ W.cell? ⟨b1, 1, none⟩ = some (.int .i64 S.vote) ∧ W.cell? ⟨b1, 2, none⟩ = some (.slice A1 l c1)) ∧ (W.cell? ⟨gd, 2, none⟩ = some (.int .i64 S.term) ∧ W.cell? ⟨gd, 3, none⟩ = some (.int .i64 S.vote) ∧ W.cell? ⟨gd, 4, none⟩ = some (.slice Ad l cd))) := Lib.hid (fun W hW => by
    have hb := H3.out.2.1.below hW H3.out.2.1.lt
    have hm := HM.out.2.below (H3.out.1.trans (hW.mono H3.out.1.size))
    exact ⟨⟨hb.cell 0, hb.cell 1, hb.cell 2⟩, hm.c2, hm.c3, by rw [HLL.out]; exact hm.c4⟩)
  have HSL : Hid (∀ W, Below w3.heap.size w3 W → Calls Try.prog 24 #[.slice A1 l c1, .slice Ad l cd] W (fun e w' => e = .returned (.bool true) ∧ Below W.heap.size W w') ∧ Calls Try.prog 24 #[.slice A2 l c2, .slice Ad l cd] W (fun e w' => e = .returned (.bool true) ∧ Below W.heap.size W w')) := Lib.hid (fun W hW => by
    have hm := (HM.out.2.below (H3.out.1.trans (hW.mono H3.out.1.size))).rd
    have h1 : RdE W A1 S.log := .of_own ecell_len (own_below H3.out.2.2.1 hW) HLL.out
    have h2 : RdE W A2 S.log := .of_own ecell_len (own_below H3.out.2.2.2 hW) HLL.out
    have k1 := sameLog_any A1 Ad c1 cd S.log W h1 hm (by rw [← HLL.out]; omega)
    have k2 := sameLog_any A2 Ad c2 cd S.log W h2 hm (by rw [← HLL.out]; omega)
    rw [← HLL.out] at k1 k2
    exact ⟨k1, k2⟩)
  refine wp_region_plan (.q 0 (.q 1 (.q 2 (.q 3 (.q 4 (.q 5 (.q 6 (.q 7 (.q 8 (.q 9 (.q 10 (.q 11 (.q 12 (.q 13 (.q 14 (.q 15 (.q 16 (.q 17 (.q 18 (.q 19 (.q 20 (.q 21 (.q 22 (.q 23 (.q 24 (.q 25 (.a1 26 (.q 27 (.q 28 (.q 29 (.q 30 (.q 31 (.q 32 (.q 33 (.q 34 (.q 35 (.a1 36 (.q 37 (.q 38 .fin))))))))))))))))))))))))))))))))))))))) 39 (fun W => Below w3.heap.size w3 W) (by kernel_rfl) rfl (by kernel_rfl) (Below.refl _ _).drew ?_
  refine wpPlan_q rfl rfl rfl ?_; intro K hK
  go_big_quiet_op
  first | go_big_quiet_on | (refine ⟨_, fun _ _ => rfl, ?_⟩; go_big_quiet_on)
  refine wpPlan_q rfl rfl rfl ?_; intro K hK
  refine ⟨(.int .i64 S.term), fun W hW => ?_, ?_⟩
  · have q0 := (HC3.out W hW).1.1
    unfold Oper.quietAt Oper.quietUpon
    simp [go_sem, q0]
  refine hK _ ?_
  clear hK K
  try simp only [Act.put, List.setIfInBounds_toArray, List.set_cons_succ, List.set_cons_zero]
  refine wpPlan_q rfl rfl rfl ?_; intro K hK
  go_big_quiet_op
  first | go_big_quiet_on | (refine ⟨_, fun _ _ => rfl, ?_⟩; go_big_quiet_on)
  refine wpPlan_q rfl rfl rfl ?_; intro K hK
  go_big_quiet_op
  first | go_big_quiet_on | (refine ⟨_, fun _ _ => rfl, ?_⟩; go_big_quiet_on)
  refine wpPlan_q rfl rfl rfl ?_; intro K hK
  go_big_quiet_op
  first | go_big_quiet_on | (refine ⟨_, fun _ _ => rfl, ?_⟩; go_big_quiet_on)
  refine wpPlan_q rfl rfl rfl ?_; intro K hK
  go_big_quiet_op
  first | go_big_quiet_on | (refine ⟨_, fun _ _ => rfl, ?_⟩; go_big_quiet_on)
  refine wpPlan_q rfl rfl rfl ?_; intro K hK
  refine ⟨(.int .i64 S.term), fun W hW => ?_, ?_⟩
  · have q0 := (HC3.out W hW).2.1
    unfold Oper.quietAt Oper.quietUpon
    simp [go_sem, q0]
  refine hK _ ?_
  clear hK K
  try simp only [Act.put, List.setIfInBounds_toArray, List.set_cons_succ, List.set_cons_zero]
  refine wpPlan_q rfl rfl rfl ?_; intro K hK
  refine ⟨(.bool false), fun W hW => ?_, ?_⟩
  · unfold Oper.quietAt Oper.quietUpon
    simp [go_sem]
  refine hK _ ?_
  clear hK K
  try simp only [Act.put, List.setIfInBounds_toArray, List.set_cons_succ, List.set_cons_zero]
  refine wpPlan_q rfl rfl rfl ?_; intro K hK
  go_big_quiet_op
  first | go_big_quiet_on | (refine ⟨_, fun _ _ => rfl, ?_⟩; go_big_quiet_on)
  refine wpPlan_q rfl rfl rfl ?_; intro K hK
  go_big_quiet_op
  first | go_big_quiet_on | (refine ⟨_, fun _ _ => rfl, ?_⟩; go_big_quiet_on)
  refine wpPlan_q rfl rfl rfl ?_; intro K hK
  refine ⟨(.int .i64 S.vote), fun W hW => ?_, ?_⟩
  · have q0 := (HC3.out W hW).1.2.1
    unfold Oper.quietAt Oper.quietUpon
    simp [go_sem, q0]
  refine hK _ ?_
  clear hK K
  try simp only [Act.put, List.setIfInBounds_toArray, List.set_cons_succ, List.set_cons_zero]
  refine wpPlan_q rfl rfl rfl ?_; intro K hK
  go_big_quiet_op
  first | go_big_quiet_on | (refine ⟨_, fun _ _ => rfl, ?_⟩; go_big_quiet_on)
  refine wpPlan_q rfl rfl rfl ?_; intro K hK
  go_big_quiet_op
  first | go_big_quiet_on | (refine ⟨_, fun _ _ => rfl, ?_⟩; go_big_quiet_on)
  refine wpPlan_q rfl rfl rfl ?_; intro K hK
  go_big_quiet_op
  first | go_big_quiet_on | (refine ⟨_, fun _ _ => rfl, ?_⟩; go_big_quiet_on)
  refine wpPlan_q rfl rfl rfl ?_; intro K hK
  go_big_quiet_op
  first | go_big_quiet_on | (refine ⟨_, fun _ _ => rfl, ?_⟩; go_big_quiet_on)
  refine wpPlan_q rfl rfl rfl ?_; intro K hK
  refine ⟨(.int .i64 S.vote), fun W hW => ?_, ?_⟩
  · have q0 := (HC3.out W hW).2.2.1
    unfold Oper.quietAt Oper.quietUpon
    simp [go_sem, q0]
  refine hK _ ?_
  clear hK K
  try simp only [Act.put, List.setIfInBounds_toArray, List.set_cons_succ, List.set_cons_zero]
  refine wpPlan_q rfl rfl rfl ?_; intro K hK
  refine ⟨(.bool false), fun W hW => ?_, ?_⟩
  · unfold Oper.quietAt Oper.quietUpon
    simp [go_sem]
  refine hK _ ?_
  clear hK K
  try simp only [Act.put, List.setIfInBounds_toArray, List.set_cons_succ, List.set_cons_zero]
  refine wpPlan_q rfl rfl rfl ?_; intro K hK
  go_big_quiet_op
  first | go_big_quiet_on | (refine ⟨_, fun _ _ => rfl, ?_⟩; go_big_quiet_on)
  refine wpPlan_q rfl rfl rfl ?_; intro K hK
  go_big_quiet_op
  first | go_big_quiet_on | (refine ⟨_, fun _ _ => rfl, ?_⟩; go_big_quiet_on)
  refine wpPlan_q rfl rfl rfl ?_; intro K hK
  go_big_quiet_op
  first | go_big_quiet_on | (refine ⟨_, fun _ _ => rfl, ?_⟩; go_big_quiet_on)
  refine wpPlan_q rfl rfl rfl ?_; intro K hK
  refine ⟨(.slice A1 l c1), fun W hW => ?_, ?_⟩
  · have q0 := (HC3.out W hW).1.2.2
    unfold Oper.quietAt Oper.quietUpon
    simp [go_sem, q0]
  refine hK _ ?_
  clear hK K
  try simp only [Act.put, List.setIfInBounds_toArray, List.set_cons_succ, List.set_cons_zero]
  refine wpPlan_q rfl rfl rfl ?_; intro K hK
  go_big_quiet_op
  first | go_big_quiet_on | (refine ⟨_, fun _ _ => rfl, ?_⟩; go_big_quiet_on)
  refine wpPlan_q rfl rfl rfl ?_; intro K hK
  go_big_quiet_op
  first | go_big_quiet_on | (refine ⟨_, fun _ _ => rfl, ?_⟩; go_big_quiet_on)
  refine wpPlan_q rfl rfl rfl ?_; intro K hK
  go_big_quiet_op
  first | go_big_quiet_on | (refine ⟨_, fun _ _ => rfl, ?_⟩; go_big_quiet_on)
  refine wpPlan_q rfl rfl rfl ?_; intro K hK
  go_big_quiet_op
  first | go_big_quiet_on | (refine ⟨_, fun _ _ => rfl, ?_⟩; go_big_quiet_on)
  refine wpPlan_q rfl rfl rfl ?_; intro K hK
  refine ⟨(.slice Ad l cd), fun W hW => ?_, ?_⟩
  · have q0 := (HC3.out W hW).2.2.2
    unfold Oper.quietAt Oper.quietUpon
    simp [go_sem, q0]
  refine hK _ ?_
  clear hK K
  try simp only [Act.put, List.setIfInBounds_toArray, List.set_cons_succ, List.set_cons_zero]
  refine wpPlan_act true rfl rfl rfl ?_; intro K hK
  go_simp
  refine ((HSL.out _ (Below.refl w3.heap.size w3).drew).1).mono ?_
  rintro e w4 ⟨rfl, hb4⟩
  have HB4 : Hid (Below w3.heap.size w3 w4) := (Below.refl w3.heap.size w3).drew.trans (hb4.mono (Nat.le_refl _))
  clear hb4
  refine hK _ _ (fun _ => HB4.out) ?_
  clear hK K
  try simp only [Act.put, List.setIfInBounds_toArray, List.set_cons_succ, List.set_cons_zero]
  refine wpPlan_q rfl rfl rfl ?_; intro K hK
  go_big_quiet_op
  first | go_big_quiet_on | (refine ⟨_, fun _ _ => rfl, ?_⟩; go_big_quiet_on)
  refine wpPlan_q rfl rfl rfl ?_; intro K hK
  go_big_quiet_op
  first | go_big_quiet_on | (refine ⟨_, fun _ _ => rfl, ?_⟩; go_big_quiet_on)
  refine wpPlan_q rfl rfl rfl ?_; intro K hK
  go_big_quiet_op
  first | go_big_quiet_on | (refine ⟨_, fun _ _ => rfl, ?_⟩; go_big_quiet_on)
  refine wpPlan_q rfl rfl rfl ?_; intro K hK
  go_big_quiet_op
  first | go_big_quiet_on | (refine ⟨_, fun _ _ => rfl, ?_⟩; go_big_quiet_on)
  refine wpPlan_q rfl rfl rfl ?_; intro K hK
  go_big_quiet_op
  first | go_big_quiet_on | (refine ⟨_, fun _ _ => rfl, ?_⟩; go_big_quiet_on)
  refine wpPlan_q rfl rfl rfl ?_; intro K hK
  go_big_quiet_op
  first | go_big_quiet_on | (refine ⟨_, fun _ _ => rfl, ?_⟩; go_big_quiet_on)
  refine wpPlan_q rfl rfl rfl ?_; intro K hK
  go_big_quiet_op
  first | go_big_quiet_on | (refine ⟨_, fun _ _ => rfl, ?_⟩; go_big_quiet_on)
  refine wpPlan_q rfl rfl rfl ?_; intro K hK
  go_big_quiet_op
  first | go_big_quiet_on | (refine ⟨_, fun _ _ => rfl, ?_⟩; go_big_quiet_on)
  refine wpPlan_q rfl rfl rfl ?_; intro K hK
  refine ⟨(.slice Ad l cd), fun W hW => ?_, ?_⟩
  · have q0 := (HC3.out W hW).2.2.2
    unfold Oper.quietAt Oper.quietUpon
    simp [go_sem, q0]
  refine hK _ ?_
  clear hK K
  try simp only [Act.put, List.setIfInBounds_toArray, List.set_cons_succ, List.set_cons_zero]
  refine wpPlan_act true rfl rfl rfl ?_; intro K hK
  go_simp
  refine ((HSL.out _ HB4.out).2).mono ?_
  rintro e w5 ⟨rfl, hb5⟩
  have HB5 : Hid (Below w3.heap.size w3 w5) := HB4.out.trans (hb5.mono HB4.out.size)
  clear hb5
  refine hK _ _ (fun _ => HB5.out) ?_
  clear hK K
  try simp only [Act.put, List.setIfInBounds_toArray, List.set_cons_succ, List.set_cons_zero]
  refine wpPlan_q rfl rfl rfl ?_; intro K hK
  go_big_quiet_op
  first | go_big_quiet_on | (refine ⟨_, fun _ _ => rfl, ?_⟩; go_big_quiet_on)
  refine wpPlan_q rfl rfl rfl ?_; intro K hK
  go_big_quiet_op
  first | go_big_quiet_on | (refine ⟨_, fun _ _ => rfl, ?_⟩; go_big_quiet_on)
  refine wpPlan_fin ?_
  obtain ⟨T, hT⟩ : ∃ T : Nat → Prop, T = fun b => w.heap.size ≤ b ∧ b ≠ b1 := ⟨_, rfl⟩
  have HT : Hid (∀ b, T b ↔ w.heap.size ≤ b ∧ b ≠ b1) := Lib.hid (fun b => by rw [hT])
  clear hT
  have H5 : Hid (Below w.heap.size w w5 ∧ Blk w5 b1 29 #[.int .i64 S.term, .int .i64 S.vote, .slice A1 l c1] ∧ Ther w5 T A1 l ∧ Ther w5 T A2 l) := Lib.hid (by
    have hb := H3.out.2.1.below HB5.out H3.out.2.1.lt
    have o1 := own_below H3.out.2.2.1 HB5.out
    have o2 := own_below H3.out.2.2.2 HB5.out
    refine ⟨H3.out.1.trans (HB5.out.mono H3.out.1.size), hb, .of_own o1 (fun a ha => (HT.out _).2 ⟨(World.ownsRow.lt o1 _ (own_block o1 a ha)).1, fun he => own_blk_ne o1 hb (by decide) ((own_block o1 a ha).trans (congrArg some he))⟩), .of_own o2 (fun a ha => (HT.out _).2 ⟨Nat.le_trans HSZ.out (World.ownsRow.lt o2 _ (own_block o2 a ha)).1, fun he => own_blk_ne o2 hb (by decide) ((own_block o2 a ha).trans (congrArg some he))⟩)⟩)
  clear HB4 HB5 HSL HC3 H3
  go_wp2_with fail
  go_loopw [7] (fun s7 wr => ∃ k : Nat, s7 = .int .i64 (k : Nat) ∧ k ≤ l ∧ Below w.heap.size w wr ∧ Blk wr b1 29 #[.int .i64 S.term, .int .i64 S.vote, .slice A1 l c1] ∧ Ther wr T A1 l ∧ Ther wr T A2 l) (fun s7 _ => l - (intOf s7).toNat)
  case atStart => exact ⟨0, rfl, by omega, H5.out⟩
  case round =>
    obtain ⟨k, rfl, hk, hb, hbk, ht1, ht2⟩ := hrel
    have HR := Lib.hid (And.intro hb (And.intro hbk (And.intro ht1 ht2)))
    clear hb hbk ht1 ht2
    by_cases hlt : k < l
    · have d1 : decide ((k : Int) < (l : Int)) = true := decide_eq_true (by omega)
      have hkl : (k : Int) < (l : Int) := by omega
      have hk0 : (0 : Int) ≤ (k : Int) := by omega
      obtain ⟨g1, rfl, hg1, hth1⟩ := HR.out.2.2.1.at_ hlt
      obtain ⟨g2, rfl, hg2, hth2⟩ := HR.out.2.2.2.at_ hlt
      have HG := Lib.hid (And.intro hg1 (And.intro hth1 (And.intro hg2 hth2)))
      clear hg1 hth1 hg2 hth2
      have H6 : Hid (Below w.heap.size w (wr.setCells g2 (k * 2) (#[.int .i64 99, .string ⟨#[]⟩] : Array Value).toList) ∧ Blk (wr.setCells g2 (k * 2) (#[.int .i64 99, .string ⟨#[]⟩] : Array Value).toList) b1 29 #[.int .i64 S.term, .int .i64 S.vote, .slice (some ⟨g1, 0, none⟩) l c1] ∧ Ther (wr.setCells g2 (k * 2) (#[.int .i64 99, .string ⟨#[]⟩] : Array Value).toList) T (some ⟨g1, 0, none⟩) l ∧ Ther (wr.setCells g2 (k * 2) (#[.int .i64 99, .string ⟨#[]⟩] : Array Value).toList) T (some ⟨g2, 0, none⟩) l ∧ World.there (wr.setCells g2 (k * 2) (#[.int .i64 99, .string ⟨#[]⟩] : Array Value).toList) g1 (k * 2) 2) := Lib.hid (by
        have hc : Chg T wr (wr.setCells g2 (k * 2) (#[.int .i64 99, .string ⟨#[]⟩] : Array Value).toList) := Chg.setCells HG.out.2.2.1 _ _ _ (Chg.refl _ _)
        exact ⟨Chg.below HR.out.1 hc HR.out.1.size (fun b hb => ((HT.out b).1 hb).1), HR.out.2.1.chg hc (fun h => ((HT.out _).1 h).2 rfl), HR.out.2.2.1.setCells _ _ _, HR.out.2.2.2.setCells _ _ _, World.there_setCells HG.out.2.1 _ _ _⟩)
      go_wp2_with (first | (refine wpList_store_mid rfl 39 (.tmp 60) (.tmp 59) rfl g2 (k * 2) #[.int .i64 99, .string ⟨#[]⟩] rfl rfl HG.out.2.2.2 (by kernel_rfl) (by kernel_rfl) ?_; generalize (wr.setCells g2 (k * 2) (#[.int .i64 99, .string ⟨#[]⟩] : Array Value).toList) = w6 at *; have x2 : w6.cell? ⟨b1, 2, none⟩ = some (.slice (some ⟨g1, 0, none⟩) l c1) := H6.out.2.1.cell 2) | (refine wpList_store_mid rfl 39 (.tmp 65) (.tmp 64) rfl g1 (k * 2) #[.int .i64 98, .string ⟨#[]⟩] rfl rfl H6.out.2.2.2.2 (by kernel_rfl) (by kernel_rfl) ?_; have H7 : Hid (Below w.heap.size w (w6.setCells g1 (k * 2) (#[.int .i64 98, .string ⟨#[]⟩] : Array Value).toList) ∧ Blk (w6.setCells g1 (k * 2) (#[.int .i64 98, .string ⟨#[]⟩] : Array Value).toList) b1 29 #[.int .i64 S.term, .int .i64 S.vote, .slice (some ⟨g1, 0, none⟩) l c1] ∧ Ther (w6.setCells g1 (k * 2) (#[.int .i64 98, .string ⟨#[]⟩] : Array Value).toList) T (some ⟨g1, 0, none⟩) l ∧ Ther (w6.setCells g1 (k * 2) (#[.int .i64 98, .string ⟨#[]⟩] : Array Value).toList) T (some ⟨g2, 0, none⟩) l) := Lib.hid (have hc : Chg T w6 (w6.setCells g1 (k * 2) (#[.int .i64 98, .string ⟨#[]⟩] : Array Value).toList) := Chg.setCells HG.out.1 _ _ _ (Chg.refl _ _); ⟨Chg.below H6.out.1 hc H6.out.1.size (fun b hb => ((HT.out b).1 hb).1), H6.out.2.1.chg hc (fun h => ((HT.out _).1 h).2 rfl), H6.out.2.2.1.setCells _ _ _, H6.out.2.2.2.1.setCells _ _ _⟩); generalize (w6.setCells g1 (k * 2) (#[.int .i64 98, .string ⟨#[]⟩] : Array Value).toList) = w7 at *) | fail)
      go_roundw
      case rel => exact ⟨k + 1, by go_num, by omega, H7.out⟩
      case measure => simp [intOf]; omega
    · have d1 : decide ((k : Int) < (l : Int)) = false := decide_eq_false (by omega)
      have HMW : Hid (∀ N, SvM (wr.drewN N) g S A c ∧ RvM (wr.drewN N) gd S Ad cd V P) := Lib.hid (fun N => ⟨HM.out.1.below (below_drewN HR.out.1 N), HM.out.2.below (below_drewN HR.out.1 N)⟩)
      have HG1 : Hid (∀ N, Calls Try.prog 32 #[.pointer (some ⟨g, 0, none⟩)] (wr.drewN N) fun e w' => e = .returned (.int .i64 S.term) ∧ w' = wr.drewN N) := Lib.hid (fun N => Term_any _ g S.n S.term (HMW.out N).1.c1 hn0 (HMW.out N).1.c2)
      have HG2 : Hid (∀ N, Calls Try.prog 11 #[.pointer (some ⟨g, 0, none⟩)] (wr.drewN N) fun e w' => e = .returned (.int .i64 S.vote) ∧ w' = wr.drewN N) := Lib.hid (fun N => Vote_any _ g S.n S.vote (HMW.out N).1.c1 hn0 (HMW.out N).1.c3)
      have HG3 : Hid (∀ N, Calls Try.prog 13 #[.pointer (some ⟨g, 0, none⟩)] (wr.drewN N) fun e w' => e = .returned (.int .i64 (S.commit : Nat)) ∧ w' = wr.drewN N) := Lib.hid (fun N => Commit_any _ g S.n (S.commit : Nat) (HMW.out N).1.c1 hn0 (HMW.out N).1.c7)
      have HG4 : Hid (∀ N, Calls Try.prog 16 #[.pointer (some ⟨g, 0, none⟩)] (wr.drewN N) fun e w' => e = .returned (.int .u8 (S.role : Nat)) ∧ w' = wr.drewN N) := Lib.hid (fun N => Role_any _ g S.n (S.role : Nat) (HMW.out N).1.c1 hn0 (HMW.out N).1.c5)
      have HG5 : Hid (∀ N, Calls Try.prog 12 #[.pointer (some ⟨g, 0, none⟩)] (wr.drewN N) fun e w' => e = .returned (.int .i64 S.leader) ∧ w' = wr.drewN N) := Lib.hid (fun N => Leader_any _ g S.n S.leader (HMW.out N).1.c1 hn0 (HMW.out N).1.c6)
      have e2 := (HMW.out 0).2.c2
      have e3 := (HMW.out 0).2.c3
      have e5 := (HMW.out 0).2.c5
      have e6 := (HMW.out 0).2.c6
      have e7 := (HMW.out 0).2.c7
      change wr.cell? _ = _ at e2 e3 e5 e6 e7
      go_wp2_with fail
      go_quiet (first | refine Calls.quiet_of_same (HG1.out _) | refine Calls.quiet_of_same (HG2.out _) | refine Calls.quiet_of_same (HG3.out _) | refine Calls.quiet_of_same (HG4.out _) | refine Calls.quiet_of_same (HG5.out _))
      go_wp2_with fail
      go_ret
      exact ⟨ret_bool (by simp), below_drewN HR.out.1 _⟩
end Go.Proofs.Ytjodglepaeomiaa
