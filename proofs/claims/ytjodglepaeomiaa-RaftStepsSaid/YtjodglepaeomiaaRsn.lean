/- Contracts of the document's copied, TermAt, appendTo. -/
import Derived.Test.YtjodglepaeomiaaRme
namespace Go.Proofs.Ytjodglepaeomiaa
open Go.RowKit

set_option maxRecDepth 100000 in
set_option maxHeartbeats 1000000 in
theorem copied_any (A : Option Addr) (c : Nat) (l : List Ent) (w : World) (hrd : RdE w A l) (hlen : l.length ≤ 90000) :
    Calls Try.prog 57 #[.slice A l.length c] w (ClonePost w l) := by
  obtain ⟨n, hn⟩ : ∃ n, n = l.length := ⟨_, rfl⟩
  have HRD := Lib.hid (hrd.reads ecell_len)
  unfold ClonePost
  rw [← hn] at HRD hlen ⊢
  clear hrd hn
  go_enter Try.func57, Try.ntmps57
  go_wp2_with (at_builtin; refine wpList_app_ents rfl (.tmp 4) (.tmp 5) rfl w.heap.size 0 n 0 c _ none A [] l rfl (World.ownsRow_nil _ _ _ _) rfl HRD.out (by omega) (Nat.le_refl _) ?_; intro A4 c4 w6 ho6 hg6 _; have H6 := Lib.hid (And.intro ho6 ((Below.refl w.heap.size w).grown hg6 (Nat.le_refl _) (fun r hr => by cases hr))); clear ho6 hg6)
  go_ret
  exact ⟨⟨A4, c4, rfl, by have h := H6.out.1; rw [Nat.zero_add] at h; exact h⟩, H6.out.2⟩
set_option maxRecDepth 100000 in
theorem termat_zero (w : World) (g : Nat) :
    Calls Try.prog 73 #[.pointer (some ⟨g, 0, none⟩), .int .i64 0] w fun e w' => e = .returned (.int .i64 0) ∧ w' = w := by
  go_enter Try.func73, Try.ntmps73
  go_wp2_with fail
  go_ret
  exact ⟨rfl, rfl⟩
set_option maxRecDepth 100000 in
theorem termat_pos (w : World) (g n c k b off : Nat) (t : Int) (h4 : w.cell? ⟨g, 4, none⟩ = some (.slice (some ⟨b, off, none⟩) n c)) (hk : k < n) (hn : n ≤ 100000) (hc : w.cell? ⟨b, off + k * 2, none⟩ = some (.int .i64 t)) :
    Calls Try.prog 73 #[.pointer (some ⟨g, 0, none⟩), .int .i64 ((k + 1 : Nat) : Int)] w fun e w' => e = .returned (.int .i64 t) ∧ w' = w := by
  have h3 : ((k + 1 : Nat) : Int) = (k : Int) + 1 := by omega
  have h0 : decide ((k : Int) + 1 < 1) = false := decide_eq_false (by omega)
  have h1 : (0 : Int) ≤ (k : Int) := by omega
  have h2 : (k : Int) < (n : Int) := by omega
  rw [h3]
  clear h3
  go_enter Try.func73, Try.ntmps73
  go_wp2_with fail
  go_ret
  exact ⟨rfl, rfl⟩
theorem termat_any {w : World} {g c : Nat} {S : Sv} {A : Option Addr} {V : List Bool} {P : List (Nat × Nat)} (h : RvM w g S A c V P) (k : Nat) (hk : k ≤ S.log.length) (hn : S.log.length ≤ 100000) :
    Calls Try.prog 73 #[.pointer (some ⟨g, 0, none⟩), .int .i64 (k : Nat)] w fun e w' => e = .returned (.int .i64 (termAt S.log k)) ∧ w' = w := by
  cases k with
  | zero => exact termat_zero w g
  | succ k =>
    obtain ⟨x, hx⟩ : ∃ x, S.log[k]? = some x := ⟨_, List.getElem?_eq_getElem hk⟩
    obtain ⟨b, off, hA, _, c0, _⟩ := h.rd.ents hx
    have e : termAt S.log (k + 1) = x.term := by rw [termAt, hx]; rfl
    rw [e]
    subst hA
    exact termat_pos w g S.log.length c k b off x.term h.c4 hk hn c0
theorem cutR_ents {w : World} {g c : Nat} {S : Sv} {A : Option Addr} {V : List Bool} {P : List (Nat × Nat)} (h : RvM w g S A c V P) (i j : Nat) (hij : i ≤ j) (hj : j ≤ S.log.length) :
    RdE w (if c = i then A else Option.map (fun x => x.add (i * 2)) A) ((S.log.take j).drop i) ∧ ((if c = i then A else Option.map (fun x => x.add (i * 2)) A) = none → c - i = 0) := by
  have hc := h.cap
  by_cases hci : c = i
  · rw [if_pos hci]
    refine ⟨.inl (List.eq_nil_of_length_eq_zero (by rw [List.length_drop, List.length_take]; omega)), fun _ => by omega⟩
  · rw [if_neg hci]
    rcases h.log.2 with ⟨h2, h3⟩ | ⟨g', cap, cur, h2, _⟩
    · injection h2 with h4 h5 h6
      omega
    · injection h2 with h4 h5 h6
      subst h4
      refine ⟨?_, fun e => by cases e⟩
      show RdE w (some ((⟨g', 0, none⟩ : Addr).add (i * 2))) _
      rw [addr_add]
      exact h.rd.cut i j
set_option maxRecDepth 100000 in
set_option maxHeartbeats 4000000 in
theorem appendTo_any (S : Sv) (k g : Nat) (A : Option Addr) (c : Nat) (V : List Bool) (P : List (Nat × Nat)) (w : World) (hS : RvM w g S A c V P) (hP : P.getD k (0, 0) = (S.nx.getD k 0, S.mt.getD k 0)) (hn : S.log.length ≤ 4096) (hk : k < 7) (h1 : 1 ≤ S.nx.getD k 0) (h2 : S.nx.getD k 0 ≤ S.log.length + 1) :
    Calls Try.prog 82 #[.pointer (some ⟨g, 0, none⟩), .int .i64 (k : Nat)] w (SendPost w (S.send k)) := by
  have HS := Lib.hid hS
  have HBX : Hid (Below w.heap.size w (w.alloc (.cells #[.int .u8 0, .int .i64 0, .int .i64 0, .int .i64 0, .int .i64 0, .int .i64 0, .slice none 0 0, .int .i64 0, .bool false] 34))) := (Below.refl _ w).alloc (Nat.le_refl _) _
  have hgl := hS.lt
  have cc := (hS.cp hk).1
  rw [hP] at cc
  dsimp only at cc
  obtain ⟨n, hnn⟩ : ∃ n, n = S.log.length := ⟨_, rfl⟩
  obtain ⟨x, hx⟩ : ∃ x, x = S.nx.getD k 0 := ⟨_, rfl⟩
  obtain ⟨from_, hfr⟩ : ∃ f, x = f + 1 := ⟨x - 1, by omega⟩
  subst hfr
  have HN := Lib.hid (And.intro hnn hx)
  rw [← hx] at h1 h2 cc
  rw [← hnn] at h2 hn
  have c4 : w.cell? ⟨g, 4, none⟩ = some (.slice A n c) := by rw [hnn]; exact hS.c4
  have HCAP : Hid (n ≤ c) := by have h := hS.cap; rw [← hnn] at h; exact h
  have k1 : (0 : Int) ≤ (k : Int) := by omega
  have k2 : (k : Int) < 7 := by omega
  clear hS hP hnn hx
  go_enter Try.func82, Try.ntmps82
  obtain ⟨to_, hto⟩ : ∃ t, t = min n (from_ + 16) := ⟨_, rfl⟩
  have hmin : (min ((from_ : Int) + 16) (n : Int)) = (to_ : Int) := by omega
  have hto2 : to_ ≤ n ∧ from_ ≤ to_ ∧ to_ - from_ ≤ 16 := by omega
  have HTO := Lib.hid hto
  clear hto
  go_wp2_with fail
  all_goals
    obtain ⟨w0, hw0⟩ : ∃ x, x = w.alloc (.cells #[.int .u8 0, .int .i64 0, .int .i64 0, .int .i64 0, .int .i64 0, .int .i64 0, .slice none 0 0, .int .i64 0, .bool false] 34) := ⟨_, rfl⟩
    rw [← hw0] at HBX ⊢
    have hsz : w0.heap.size = w.heap.size + 1 := by rw [hw0]; simp
    have HC : Hid (∀ W, Below (w.heap.size + 1) w0 W → W.cell? ⟨g, 0, none⟩ = some (.int .i64 (S.id : Nat)) ∧ W.cell? ⟨g, 2, none⟩ = some (.int .i64 S.term) ∧ W.cell? ⟨g, 4, none⟩ = some (.slice A n c) ∧ W.cell? ⟨g, 7, none⟩ = some (.int .i64 (S.commit : Nat))) := fun W hW => by
      have h := HS.out.below (HBX.out.trans (hW.mono (by omega)))
      exact ⟨h.c0, h.c2, by rw [HN.out.1]; exact h.c4, h.c7⟩
    have HZB : Hid (Blk w0 w.heap.size 34 #[.int .u8 0, .int .i64 0, .int .i64 0, .int .i64 0, .int .i64 0, .int .i64 0, .slice none 0 0, .int .i64 0, .bool false]) := by rw [hw0]; exact Blk.new _ _ _
    clear hw0
    have hcn := HCAP.out
    have hslC : (0 : Int) ≤ (from_ : Int) + 16 := by omega
    have hslD : ((from_ : Int) + 16).toNat = from_ + 16 := by omega
    have hslE : (from_ : Int) + 16 ≤ (c : Int) ↔ from_ + 16 ≤ c := by omega
    have HTM : Hid (∀ W, Below (w.heap.size + 1) w0 W → Calls Try.prog 73 #[.pointer (some ⟨g, 0, none⟩), .int .i64 (from_ : Nat)] W fun e w' => e = .returned (.int .i64 (termAt S.log from_)) ∧ w' = W) := fun W hW =>
      termat_any (HS.out.below (HBX.out.trans (hW.mono (by omega)))) from_ (by rw [← HN.out.1]; omega) (by rw [← HN.out.1]; omega)
    have HCL : Hid (∀ W, Below (w.heap.size + 1) w0 W → Calls Try.prog 57 #[.slice (if c = from_ then A else Option.map (fun x => x.add (from_ * 2)) A) (to_ - from_) (c - from_)] W (fun e w' => (∃ A' c', e = .returned (.slice A' (to_ - from_) c') ∧ w'.ownsRow W.heap.size 39 2 (.slice A' (to_ - from_) c') (to_ - from_) (rowOf ecell ((S.log.take to_).drop from_))) ∧ Below W.heap.size W w')) := fun W hW => by
      have h := cutR_ents (HS.out.below (HBX.out.trans (hW.mono (by omega)))) from_ to_ hto2.2.1 (by rw [← HN.out.1]; omega)
      have h2 := copied_any _ (c - from_) _ W h.1 (by rw [List.length_drop, List.length_take]; omega)
      unfold ClonePost at h2
      rw [show ((S.log.take to_).drop from_).length = to_ - from_ by rw [List.length_drop, List.length_take, ← HN.out.1]; omega] at h2
      exact h2
    refine wp_region_plan (.q 0 (.q 1 (.q 2 (.q 3 (.q 4 (.q 5 (.q 6 (.q 7 (.q 8 (.q 9 (.q 10 (.q 11 (.q 12 (.q 14 (.q 15 (.q 16 (.q 17 (.q 18 (.q 19 (.q 20 (.q 21 (.q 23 (.q 24 (.q 25 (.q 26 (.a1 13 (.a1 22 (.q 27 (.a1 28 .fin))))))))))))))))))))))))))))) 28 (fun W => Below (w.heap.size + 1) w0 W) (by kernel_rfl) rfl (by kernel_rfl) (Below.refl _ _).drew ?_
    refine wpPlan_q rfl rfl rfl ?_; intro K hK
    go_big_quiet_op
    first | go_big_quiet_on | (refine ⟨_, fun _ _ => rfl, ?_⟩; go_big_quiet_on)
    refine wpPlan_q rfl rfl rfl ?_; intro K hK
    go_big_quiet_op
    first | go_big_quiet_on | (refine ⟨_, fun _ _ => rfl, ?_⟩; go_big_quiet_on)
    refine wpPlan_q rfl rfl rfl ?_; intro K hK
    go_big_quiet_op
    first | go_big_quiet_on | (refine ⟨_, fun _ _ => rfl, ?_⟩; go_big_quiet_on)
    refine wpPlan_q rfl rfl rfl ?_; intro K hK
    refine ⟨(.int .i64 (S.id : Nat)), fun W hW => ?_, ?_⟩
    · have q0 := (HC.out W hW).1
      unfold Oper.quietAt Oper.quietUpon
      simp [go_sem, q0]
    refine hK _ ?_
    clear hK K
    simp only [Act.put, List.setIfInBounds_toArray, List.set_cons_succ, List.set_cons_zero]
    refine wpPlan_q rfl rfl rfl ?_; intro K hK
    go_big_quiet_op
    first | go_big_quiet_on | (refine ⟨_, fun _ _ => rfl, ?_⟩; go_big_quiet_on)
    refine wpPlan_q rfl rfl rfl ?_; intro K hK
    go_big_quiet_op
    first | go_big_quiet_on | (refine ⟨_, fun _ _ => rfl, ?_⟩; go_big_quiet_on)
    refine wpPlan_q rfl rfl rfl ?_; intro K hK
    go_big_quiet_op
    first | go_big_quiet_on | (refine ⟨_, fun _ _ => rfl, ?_⟩; go_big_quiet_on)
    refine wpPlan_q rfl rfl rfl ?_; intro K hK
    go_big_quiet_op
    first | go_big_quiet_on | (refine ⟨_, fun _ _ => rfl, ?_⟩; go_big_quiet_on)
    refine wpPlan_q rfl rfl rfl ?_; intro K hK
    go_big_quiet_op
    first | go_big_quiet_on | (refine ⟨_, fun _ _ => rfl, ?_⟩; go_big_quiet_on)
    refine wpPlan_q rfl rfl rfl ?_; intro K hK
    refine ⟨(.int .i64 S.term), fun W hW => ?_, ?_⟩
    · have q0 := (HC.out W hW).2.1
      unfold Oper.quietAt Oper.quietUpon
      simp [go_sem, q0]
    refine hK _ ?_
    clear hK K
    simp only [Act.put, List.setIfInBounds_toArray, List.set_cons_succ, List.set_cons_zero]
    refine wpPlan_q rfl rfl rfl ?_; intro K hK
    go_big_quiet_op
    first | go_big_quiet_on | (refine ⟨_, fun _ _ => rfl, ?_⟩; go_big_quiet_on)
    refine wpPlan_q rfl rfl rfl ?_; intro K hK
    go_big_quiet_op
    first | go_big_quiet_on | (refine ⟨_, fun _ _ => rfl, ?_⟩; go_big_quiet_on)
    refine wpPlan_q rfl rfl rfl ?_; intro K hK
    go_big_quiet_op
    first | go_big_quiet_on | (refine ⟨_, fun _ _ => rfl, ?_⟩; go_big_quiet_on)
    refine wpPlan_q rfl rfl rfl ?_; intro K hK
    go_big_quiet_op
    first | go_big_quiet_on | (refine ⟨_, fun _ _ => rfl, ?_⟩; go_big_quiet_on)
    refine wpPlan_q rfl rfl rfl ?_; intro K hK
    go_big_quiet_op
    first | go_big_quiet_on | (refine ⟨_, fun _ _ => rfl, ?_⟩; go_big_quiet_on)
    refine wpPlan_q rfl rfl rfl ?_; intro K hK
    go_big_quiet_op
    first | go_big_quiet_on | (refine ⟨_, fun _ _ => rfl, ?_⟩; go_big_quiet_on)
    refine wpPlan_q rfl rfl rfl ?_; intro K hK
    go_big_quiet_op
    first | go_big_quiet_on | (refine ⟨_, fun _ _ => rfl, ?_⟩; go_big_quiet_on)
    refine wpPlan_q rfl rfl rfl ?_; intro K hK
    refine ⟨(.slice A n c), fun W hW => ?_, ?_⟩
    · have q0 := (HC.out W hW).2.2.1
      unfold Oper.quietAt Oper.quietUpon
      simp [go_sem, q0]
    refine hK _ ?_
    clear hK K
    simp only [Act.put, List.setIfInBounds_toArray, List.set_cons_succ, List.set_cons_zero]
    refine wpPlan_q rfl rfl rfl ?_; intro K hK
    go_big_quiet_op
    first | go_big_quiet_on | (refine ⟨_, fun _ _ => rfl, ?_⟩; go_big_quiet_on)
    refine wpPlan_q rfl rfl rfl ?_; intro K hK
    go_big_quiet_op
    first | go_big_quiet_on | (refine ⟨_, fun _ _ => rfl, ?_⟩; go_big_quiet_on)
    refine wpPlan_q rfl rfl rfl ?_; intro K hK
    refine ⟨.slice (if c = from_ then A else Option.map (fun x => x.add (from_ * 2)) A) (to_ - from_) (c - from_), fun W hW => ?_, ?_⟩
    · unfold Oper.quietAt Oper.quietUpon
      first
      | (have e : to_ = from_ + 16 := by have := HTO.out; omega); (have e2 : from_ + 16 ≤ c := by omega); (simp [go_sem, hslC, hslD, hslE, e, e2]; done)
      | (have e : to_ = n := by have := HTO.out; omega); (have e2 : n ≤ c := by omega); (have e3 : from_ ≤ n := by omega); (simp [go_sem, e, e2, e3]; done)
    refine hK _ ?_
    clear hK K
    simp only [Act.put, List.setIfInBounds_toArray, List.set_cons_succ, List.set_cons_zero]
    refine wpPlan_q rfl rfl rfl ?_; intro K hK
    go_big_quiet_op
    first | go_big_quiet_on | (refine ⟨_, fun _ _ => rfl, ?_⟩; go_big_quiet_on)
    refine wpPlan_q rfl rfl rfl ?_; intro K hK
    go_big_quiet_op
    first | go_big_quiet_on | (refine ⟨_, fun _ _ => rfl, ?_⟩; go_big_quiet_on)
    refine wpPlan_q rfl rfl rfl ?_; intro K hK
    go_big_quiet_op
    first | go_big_quiet_on | (refine ⟨_, fun _ _ => rfl, ?_⟩; go_big_quiet_on)
    refine wpPlan_q rfl rfl rfl ?_; intro K hK
    refine ⟨(.int .i64 (S.commit : Nat)), fun W hW => ?_, ?_⟩
    · have q0 := (HC.out W hW).2.2.2
      unfold Oper.quietAt Oper.quietUpon
      simp [go_sem, q0]
    refine hK _ ?_
    clear hK K
    simp only [Act.put, List.setIfInBounds_toArray, List.set_cons_succ, List.set_cons_zero]
    refine wpPlan_act true rfl rfl rfl ?_; intro K hK
    go_simp
    refine (HTM.out w0.drew (Below.refl _ _).drew).mono ?_
    rintro e w2 ⟨rfl, hw2⟩
    rw [hw2]
    clear hw2 w2
    refine hK _ _ (fun _ => (Below.refl _ _).drew) ?_
    clear hK K
    refine wpPlan_act true rfl rfl rfl ?_; intro K hK
    go_simp
    refine (HCL.out w0.drew (Below.refl _ _).drew).mono ?_
    rintro e w3 ⟨⟨A4, c4', rfl, ho3⟩, hb3⟩
    have HB3 := Lib.hid (And.intro hb3 ho3)
    refine hK _ _ (fun _ => (Below.refl _ _).drew.trans (hb3.mono (by simp [hsz]))) ?_
    clear hK K hb3 ho3
    try simp only [Act.put, List.setIfInBounds_toArray, List.set_cons_succ, List.set_cons_zero]
    refine wpPlan_q rfl rfl rfl ?_; intro K hK
    go_big_quiet_op
    first | go_big_quiet_on | (refine ⟨_, fun _ _ => rfl, ?_⟩; go_big_quiet_on)
    refine wpPlan_act false rfl rfl rfl ?_; intro K hK
    refine wp_store_row 34 (.tmp 4) (.tmp 51) rfl w.heap.size #[.int .u8 3, .int .i64 (S.id : Nat), .int .i64 (k : Nat), .int .i64 S.term, .int .i64 (from_ : Nat), .int .i64 (termAt S.log from_), .slice A4 (to_ - from_) c4', .int .i64 (S.commit : Nat), .bool false] rfl rfl 34 _ (HZB.out.drew.below HB3.out.1 (show w.heap.size < w0.heap.size by omega)) (by kernel_rfl) (by kernel_rfl) (by kernel_rfl) ?_
    refine hK _ _ (fun h => by cases h) ?_
    clear hK K
    try simp only [Act.put, List.setIfInBounds_toArray, List.set_cons_succ, List.set_cons_zero]
    refine wpPlan_fin ?_
    go_wp2_with fail
    all_goals
      have hs3 : w.heap.size < w3.heap.size := Nat.lt_of_lt_of_le (show w.heap.size < w0.drew.heap.size by simp [hsz]) HB3.out.1.size
      have hbk3 : w3.heap[w.heap.size]? = some (.cells #[.int .u8 0, .int .i64 0, .int .i64 0, .int .i64 0, .int .i64 0, .int .i64 0, .slice none 0 0, .int .i64 0, .bool false] 34 (0, 0)) := HZB.out.drew.below HB3.out.1 (show w.heap.size < w0.heap.size by omega)
      refine bodyPost_ret (results_row (ty := 34) rfl rfl (setRow_heap w3 w.heap.size _ _ 34 (0, 0) hbk3) Try.underlying34 rfl (by kernel_rfl)) rfl ?_
      have hch : Chg (fun b => b = w.heap.size) w3 (w3.setRow w.heap.size #[.int .u8 3, .int .i64 (S.id : Nat), .int .i64 (k : Nat), .int .i64 S.term, .int .i64 (from_ : Nat), .int .i64 (termAt S.log from_), .slice A4 (to_ - from_) c4', .int .i64 (S.commit : Nat), .bool false]) := (Chg.refl (fun b => b = w.heap.size) w3).setRow rfl _
      have e1 : S.send k = ⟨3, S.id, k, S.term, ((from_ : Nat) : Int), termAt S.log from_, (S.log.take to_).drop from_, S.commit, false⟩ := by
        unfold Sv.send
        rw [← HN.out.2, Nat.add_sub_cancel, ← HN.out.1, ← HTO.out]
      have e2 : ((S.log.take to_).drop from_).length = to_ - from_ := by rw [List.length_drop, List.length_take, ← HN.out.1]; omega
      rw [e1]
      refine ⟨A4, c4', by unfold mcell; rw [e2]; rfl, ?_, ?_⟩
      · rw [e2]
        exact own_chg (own_at HB3.out.2 (fun g hg => by have := (World.ownsRow.lt HB3.out.2 g hg).1; simp [hsz] at this; omega)) hch (fun g hg he => by have := (World.ownsRow.lt HB3.out.2 g hg).1; simp [hsz] at this; omega)
      · exact hch.below (HBX.out.trans ((Below.refl w0.heap.size w0).drew.trans HB3.out.1 |>.mono (by omega))) (by omega) (fun b hb => by omega)
end Go.Proofs.Ytjodglepaeomiaa
