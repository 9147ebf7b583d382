/- Contracts of put and send. -/
import Derived.Deep.RegionLaw
import Derived.Test.YtjodglepaeomiaaAns
namespace Go.Proofs.Ytjodglepaeomiaa
open Go.RowKit

theorem own_block {w : World} {base : Nat} {e : TypeId} {size n c : Nat} {A : Option Addr} {xs : List Value} (h : w.ownsRow base e size (.slice A n c) n xs) : ∀ a, A = some a → (Value.slice A n c).ownBlock = some a.block := by
  intro a ha
  rcases h.2 with ⟨h2, _⟩ | ⟨g', cap, cur, h2, _⟩
  · rw [ha] at h2; injection h2 with h2; cases h2
  · rw [h2]
    injection h2 with h2
    rw [ha] at h2
    injection h2 with h2
    rw [h2]; rfl
theorem own_block' {w : World} {base : Nat} {e : TypeId} {size n c b : Nat} {A : Option Addr} {xs : List Value} (h : w.ownsRow base e size (.slice A n c) n xs) (hb : (Value.slice A n c).ownBlock = some b) : ∃ a, A = some a ∧ a.block = b := by
  rcases h.2 with ⟨h2, _⟩ | ⟨g', cap, cur, h2, _⟩
  · rw [h2] at hb; simp [Value.ownBlock] at hb
  · rw [h2] at hb
    have : g' = b := by simpa [Value.ownBlock] using hb
    injection h2 with h2
    exact ⟨_, h2, this⟩
/-- The log is grown. -/
theorem SvM.grow {w w1 w2 : World} {g c m c' : Nat} {S : Sv} {A A' : Option Addr} {L : List Ent} (h : SvM w g S A c) (hb : Below w.heap.size w w1) (hg : w1.grownBy w2 (Value.slice A S.log.length c).ownBlock)
    (ho : w2.ownsRow 0 39 2 (.slice A' m c') m (rowOf ecell L)) (hv : (Value.slice A' m c').ownBlock = (Value.slice A S.log.length c).ownBlock ∨ (Value.slice A' m c').ownBlock = some w1.heap.size) (hm : m = L.length) :
    KeepsM w g A { S with log := L } (w2.setCell ⟨g, 4, none⟩ (.slice A' m c')) := by
  subst hm
  have hch : Chg (SvT g A) w w2 := (Chg.of_below hb).trans (.of_grown hg (fun r hr => by
    obtain ⟨a, ha, hb2⟩ := own_block' h.log hr
    exact .inr ⟨a, ha, hb2⟩))
  have hch2 : Chg (SvT g A) w (w2.setCell ⟨g, 4, none⟩ (.slice A' L.length c')) := hch.setCell (p := ⟨g, 4, none⟩) (.inl rfl) _
  have htr : ∀ a, A' = some a → (∃ a0, A = some a0 ∧ a.block = a0.block) ∨ w.heap.size ≤ a.block := fun a ha => by
    have h1 := own_block ho a ha
    rcases hv with h2 | h2
    · obtain ⟨a0, h3, h4⟩ := own_block' h.log (h2.symm.trans h1)
      exact .inl ⟨a0, h3, h4.symm⟩
    · right
      have : some a.block = some w1.heap.size := h1.symm.trans h2
      have := hb.size
      injection ‹some a.block = some w1.heap.size› with e
      omega
  have hne : ∀ a, A' = some a → a.block ≠ g := fun a ha => by
    rcases htr a ha with ⟨a0, h1, h2⟩ | h1
    · rw [h2]; exact h.ne a0 h1
    · have := h.lt; omega
  refine ⟨A', c', ⟨?_, ?_, h.nxl, h.mtl⟩, hch2, htr⟩
  · have h1 : Blk w2 g 74 (svCells S A c).toArray := h.top.chg ((Chg.of_below hb).trans (.of_grown hg (T := fun b => ∃ a, A = some a ∧ a.block = b) (fun r hr => own_block' h.log hr))) (fun ⟨a, ha, hb2⟩ => h.ne a ha hb2)
    have h2 := h1.set_ 4 (.slice A' L.length c')
    rw [List.setIfInBounds_toArray] at h2
    exact h2
  · refine own_chg ho ((Chg.refl (fun b => b = g) w2).setCell (p := ⟨g, 4, none⟩) rfl _) (fun g' hg' he => ?_)
    obtain ⟨a, ha, hb2⟩ := own_block' ho hg'
    exact hne a ha (hb2.trans he)
theorem SvM.grown_top {w w1 w2 : World} {g c n : Nat} {S : Sv} {A : Option Addr} (h : SvM w g S A c) (hb : Below w.heap.size w w1) (hg : w1.grownBy w2 (Value.slice A n c).ownBlock) (hn : n = S.log.length) :
    Blk w2 g 74 (svCells S A c).toArray := by
  subst hn
  exact h.top.chg ((Chg.of_below hb).trans (.of_grown hg (T := fun b => ∃ a, A = some a ∧ a.block = b) (fun r hr => own_block' h.log hr))) (fun ⟨a, ha, hb2⟩ => h.ne a ha hb2)
theorem info_parts39 : ∃ i0, Try.prog.info? 39 = some i0 := by
  obtain ⟨i0, hi0, _⟩ := info_parts Try.info39
  exact ⟨i0, hi0⟩
set_option maxRecDepth 100000 in
set_option maxHeartbeats 4000000 in
theorem put_any (S : Sv) (d : ByteArray) (g : Nat) (A : Option Addr) (c : Nat) (w : World) (hS : SvM w g S A c) (hn : S.log.length ≤ 4096) :
    Calls Try.prog 47 #[.pointer (some ⟨g, 0, none⟩), .string d] w fun e w' => e = .returned (.tuple #[]) ∧ KeepsM w g A (S.put d) w' := by
  have HS := Lib.hid hS
  have HB0 : Hid (Below w.heap.size w (w.drew.alloc (.cells #[.int .i64 S.term, .string d] 39))) := (Below.refl _ w).drew.alloc (Nat.le_refl _) _
  obtain ⟨n, hnn⟩ : ∃ n, n = S.log.length := ⟨_, rfl⟩
  have HN := Lib.hid hnn
  rw [← hnn] at hn
  have HF0 : Hid (w.cell? ⟨g, 4, none⟩ = some (.slice A n c) ∧ w.cell? ⟨g, 2, none⟩ = some (.int .i64 S.term)) := ⟨by rw [hnn]; exact hS.c4, hS.c2⟩
  clear hS hnn
  go_enter Try.func47, Try.ntmps47
  go_wp2_with fail
  have k4 := HF0.out.1
  have k2 := HF0.out.2
  have hgl : g < w.heap.size := HS.out.lt
  have HO1 : Hid ((w.drew.alloc (.cells #[.int .i64 S.term, .string d] 39)).ownsRow 0 39 2 (.slice A n c) n (rowOf ecell S.log)) := by rw [HN.out]; exact own_below HS.out.log HB0.out
  have HR1 : Hid (Reads (w.drew.alloc (.cells #[.int .i64 S.term, .string d] 39)) (w.heap.size + 1) 2 (some ⟨w.heap.size, 0, none⟩) 1 (rowOf ecell [⟨S.term, d⟩])) := by
    refine ⟨rfl, fun _ => ⟨_, rfl, Nat.lt_succ_self _, fun j u hu => ?_⟩⟩
    have h := (Blk.new w.drew 39 #[.int .i64 S.term, .string d]).cell j
    rw [addr_add, Nat.zero_add]
    exact h.trans (by simpa [rowOf, ecell] using hu)
  go_region_law (refine wp_app_ents (.tmp 9) (.tmp 17) rfl 0 n 1 c 1 (w.heap.size + 1) A (some ⟨w.heap.size, 0, none⟩) S.log [⟨S.term, d⟩] (by simp [Act.eval, Act.put]) HO1.out (by simp [Act.eval, Act.put]) HR1.out (by omega) (Nat.zero_le _) ?_; intro A' c' w2 ho2 hg2 hv2; have H2 := Lib.hid (And.intro ho2 (And.intro hg2 hv2)); have HT := Lib.hid (HS.out.grown_top HB0.out hg2 HN.out); clear ho2 hg2 hv2; have j4 : w2.cell? ⟨g, 4, none⟩ = some (.slice A S.log.length c) := HT.out.cell 4; have f4 : w2.frozen? ⟨g, 4, none⟩ = false := HT.out.frozen 4)
  all_goals
    go_wp2_with fail
    go_end0
    refine ⟨rfl, ?_⟩
    have hg3 := H2.out.2.1
    have hv3 := H2.out.2.2
    rw [HN.out] at hg3 hv3
    have hk := HS.out.grow HB0.out hg3 (by have h := H2.out.1; rw [HN.out] at h; exact h) hv3 (by simp)
    rw [← HN.out] at hk
    exact hk
theorem cut_ents {w : World} {g c : Nat} {S : Sv} {A : Option Addr} (h : SvM w g S A c) (i j : Nat) (hij : i ≤ j) (hj : j ≤ S.log.length) :
    RdE w (if c = i then A else Option.map (fun x => x.add (i * 2)) A) ((S.log.take j).drop i) ∧ ((if c = i then A else Option.map (fun x => x.add (i * 2)) A) = none → c - i = 0) := by
  have hc := h.cap
  by_cases hci : c = i
  · rw [if_pos hci]
    refine ⟨.inl (List.eq_nil_of_length_eq_zero (by rw [List.length_drop, List.length_take]; omega)), fun _ => by omega⟩
  · rw [if_neg hci]
    rcases h.log.2 with ⟨h2, h3⟩ | ⟨g', cap, cur, h2, _⟩
    · injection h2 with h4 h5 h6
      omega
    · injection h2 with h4 h5 h6
      subst h4
      refine ⟨?_, fun e => by cases e⟩
      show RdE w (some ((⟨g', 0, none⟩ : Addr).add (i * 2))) _
      rw [addr_add]
      exact h.rd.cut i j
theorem Chg.setRow {T : Nat → Prop} {w w' : World} (h : Chg T w w') {g : Nat} (hg : T g) (cs : Array Value) : Chg T w (w'.setRow g cs) :=
  ⟨h.os, h.tape, h.output, by rw [setRow_size]; exact h.size, fun i hi hn => (setRow_other w' g i cs (fun e => hn (e ▸ hg))).trans (h.block i hi hn)⟩
theorem results_row {fn : Func} {P : Program} {p g : Nat} {ty t : TypeId} {cs : Array Value} {fr : Nat × Nat} {tmps : Array Value} {w : World} {d : TypeDesc} (h : fn.results = #[.cell p ty]) (hp : tmps.getD p undef = .pointer (some ⟨g, 0, none⟩))
    (hg : w.heap[g]? = some (.cells cs t fr)) (hu : P.underlying ty = some d) (hd : (match d with | .struct _ | .array _ _ => true | _ => false) = true) (hi : (P.info? ty).map (·.size) = some cs.size) :
    (results fn tmps).run P w = .ok (.agg cs) w := by
  simp only [results, h]
  have h1 : (asAddr (tmps.getD p undef)).run P w = .ok ⟨g, 0, none⟩ w := by rw [hp]; rfl
  have h2 := run_loadVar_row (P := P) w g t ty cs fr d hg hu hd hi
  simp [Sem.run_bind, Result.andThen] at h1 ⊢
  rw [h1]
  simp [h2]
/-- What the making of a message leaves. -/
def SendPost (w : World) (m : Mg) (e : Ending) (w' : World) : Prop :=
  ∃ E c, e = .returned (.agg (mcell E c m).toArray) ∧ w'.ownsRow w.heap.size 39 2 (.slice E m.ents.length c) m.ents.length (rowOf ecell m.ents) ∧ Below w.heap.size w w'
set_option maxRecDepth 100000 in
set_option maxHeartbeats 4000000 in
theorem send_any (S : Sv) (k g : Nat) (A : Option Addr) (c : Nat) (w : World) (hS : SvM w g S A c) (hn : S.log.length ≤ 4096) (hk : k < 7) (h1 : 1 ≤ S.nx.getD k 0) (h2 : S.nx.getD k 0 ≤ S.log.length + 1) :
    Calls Try.prog 37 #[.pointer (some ⟨g, 0, none⟩), .int .i64 (k : Nat)] w (SendPost w (S.send k)) := by
  have HS := Lib.hid hS
  have HBX : Hid (Below w.heap.size w (w.alloc (.cells #[.int .u8 0, .int .i64 0, .int .i64 0, .int .i64 0, .int .i64 0, .int .i64 0, .slice none 0 0, .int .i64 0, .bool false] 34))) := (Below.refl _ w).alloc (Nat.le_refl _) _
  have hgl := hS.lt
  have cc := hS.cn hk
  obtain ⟨n, hnn⟩ : ∃ n, n = S.log.length := ⟨_, rfl⟩
  obtain ⟨x, hx⟩ : ∃ x, x = S.nx.getD k 0 := ⟨_, rfl⟩
  obtain ⟨from_, hfr⟩ : ∃ f, x = f + 1 := ⟨x - 1, by omega⟩
  subst hfr
  have HN := Lib.hid (And.intro hnn hx)
  rw [← hx] at h1 h2 cc
  rw [← hnn] at h2 hn
  have c4 : w.cell? ⟨g, 4, none⟩ = some (.slice A n c) := by rw [hnn]; exact hS.c4
  have HCAP : Hid (n ≤ c) := by have h := hS.cap; rw [← hnn] at h; exact h
  have k1 : (0 : Int) ≤ (k : Int) := by omega
  have k2 : (k : Int) < 7 := by omega
  clear hS hnn hx
  go_enter Try.func37, Try.ntmps37
  obtain ⟨to_, hto⟩ : ∃ t, t = min n (from_ + 16) := ⟨_, rfl⟩
  have hmin : (min (n : Int) ((from_ : Int) + 16)) = (to_ : Int) := by omega
  have hto2 : to_ ≤ n ∧ from_ ≤ to_ ∧ to_ - from_ ≤ 16 := by omega
  have HTO := Lib.hid hto
  clear hto
  have HL := Lib.hid (last_any (w.alloc (.cells #[.int .u8 0, .int .i64 0, .int .i64 0, .int .i64 0, .int .i64 0, .int .i64 0, .slice none 0 0, .int .i64 0, .bool false] 34)) g n c A (by rw [HN.out.1]; exact (HS.out.below HBX.out).c4))
  go_wp2_with ((with_reducible refine HL.out.mono ?_); rintro e w1 ⟨rfl, hw1⟩; rw [hw1]; clear hw1 w1)
  all_goals
    obtain ⟨w0, hw0⟩ : ∃ x, x = w.alloc (.cells #[.int .u8 0, .int .i64 0, .int .i64 0, .int .i64 0, .int .i64 0, .int .i64 0, .slice none 0 0, .int .i64 0, .bool false] 34) := ⟨_, rfl⟩
    rw [← hw0] at HBX ⊢
    have hsz : w0.heap.size = w.heap.size + 1 := by rw [hw0]; simp
    have HC : Hid (∀ W, Below (w.heap.size + 1) w0 W → W.cell? ⟨g, 0, none⟩ = some (.int .i64 (S.id : Nat)) ∧ W.cell? ⟨g, 2, none⟩ = some (.int .i64 S.term) ∧ W.cell? ⟨g, 4, none⟩ = some (.slice A n c) ∧ W.cell? ⟨g, 7, none⟩ = some (.int .i64 (S.commit : Nat))) := fun W hW => by
      have h := HS.out.below (HBX.out.trans (hW.mono (by omega)))
      exact ⟨h.c0, h.c2, by rw [HN.out.1]; exact h.c4, h.c7⟩
    have HZB : Hid (Blk w0 w.heap.size 34 #[.int .u8 0, .int .i64 0, .int .i64 0, .int .i64 0, .int .i64 0, .int .i64 0, .slice none 0 0, .int .i64 0, .bool false]) := by rw [hw0]; exact Blk.new _ _ _
    clear hw0
    have hcn := HCAP.out
    have hslC : (0 : Int) ≤ (from_ : Int) + 16 := by omega
    have hslD : ((from_ : Int) + 16).toNat = from_ + 16 := by omega
    have hslE : (from_ : Int) + 16 ≤ (c : Int) ↔ from_ + 16 ≤ c := by omega
    have HTM : Hid (∀ W, Below (w.heap.size + 1) w0 W → Calls Try.prog 41 #[.pointer (some ⟨g, 0, none⟩), .int .i64 (from_ : Nat)] W fun e w' => e = .returned (.int .i64 (termAt S.log from_)) ∧ w' = W) := fun W hW =>
      term_any (HS.out.below (HBX.out.trans (hW.mono (by omega)))) from_ (by rw [← HN.out.1]; omega) (by rw [← HN.out.1]; omega)
    have HCL : Hid (∀ W, Below (w.heap.size + 1) w0 W → Calls Try.prog 34 #[.slice (if c = from_ then A else Option.map (fun x => x.add (from_ * 2)) A) (to_ - from_) (c - from_)] W (fun e w' => (∃ A' c', e = .returned (.slice A' (to_ - from_) c') ∧ w'.ownsRow W.heap.size 39 2 (.slice A' (to_ - from_) c') (to_ - from_) (rowOf ecell ((S.log.take to_).drop from_))) ∧ Below W.heap.size W w')) := fun W hW => by
      have h := cut_ents (HS.out.below (HBX.out.trans (hW.mono (by omega)))) from_ to_ hto2.2.1 (by rw [← HN.out.1]; omega)
      have h2 := clone_any _ (c - from_) _ W h.1 (by rw [List.length_drop, List.length_take]; omega) h.2
      unfold ClonePost at h2
      rw [show ((S.log.take to_).drop from_).length = to_ - from_ by rw [List.length_drop, List.length_take, ← HN.out.1]; omega] at h2
      exact h2
    refine wp_region_plan (.q 0 (.q 1 (.q 2 (.q 3 (.q 4 (.q 5 (.q 6 (.q 7 (.q 8 (.q 9 (.q 10 (.q 11 (.q 12 (.q 14 (.q 15 (.q 16 (.q 17 (.q 18 (.q 19 (.q 20 (.q 21 (.q 23 (.q 24 (.q 25 (.q 26 (.a1 13 (.a1 22 (.q 27 (.a1 28 .fin))))))))))))))))))))))))))))) 28 (fun W => Below (w.heap.size + 1) w0 W) (by kernel_rfl) rfl (by kernel_rfl) (Below.refl _ _).drew ?_
    refine wpPlan_q rfl rfl rfl ?_; intro K hK
    go_big_quiet_op
    first | go_big_quiet_on | (refine ⟨_, fun _ _ => rfl, ?_⟩; go_big_quiet_on)
    refine wpPlan_q rfl rfl rfl ?_; intro K hK
    go_big_quiet_op
    first | go_big_quiet_on | (refine ⟨_, fun _ _ => rfl, ?_⟩; go_big_quiet_on)
    refine wpPlan_q rfl rfl rfl ?_; intro K hK
    go_big_quiet_op
    first | go_big_quiet_on | (refine ⟨_, fun _ _ => rfl, ?_⟩; go_big_quiet_on)
    refine wpPlan_q rfl rfl rfl ?_; intro K hK
    refine ⟨(.int .i64 (S.id : Nat)), fun W hW => ?_, ?_⟩
    · have q0 := (HC.out W hW).1
      unfold Oper.quietAt Oper.quietUpon
      simp [go_sem, q0]
    refine hK _ ?_
    clear hK K
    simp only [Act.put, List.setIfInBounds_toArray, List.set_cons_succ, List.set_cons_zero]
    refine wpPlan_q rfl rfl rfl ?_; intro K hK
    go_big_quiet_op
    first | go_big_quiet_on | (refine ⟨_, fun _ _ => rfl, ?_⟩; go_big_quiet_on)
    refine wpPlan_q rfl rfl rfl ?_; intro K hK
    go_big_quiet_op
    first | go_big_quiet_on | (refine ⟨_, fun _ _ => rfl, ?_⟩; go_big_quiet_on)
    refine wpPlan_q rfl rfl rfl ?_; intro K hK
    go_big_quiet_op
    first | go_big_quiet_on | (refine ⟨_, fun _ _ => rfl, ?_⟩; go_big_quiet_on)
    refine wpPlan_q rfl rfl rfl ?_; intro K hK
    go_big_quiet_op
    first | go_big_quiet_on | (refine ⟨_, fun _ _ => rfl, ?_⟩; go_big_quiet_on)
    refine wpPlan_q rfl rfl rfl ?_; intro K hK
    go_big_quiet_op
    first | go_big_quiet_on | (refine ⟨_, fun _ _ => rfl, ?_⟩; go_big_quiet_on)
    refine wpPlan_q rfl rfl rfl ?_; intro K hK
    refine ⟨(.int .i64 S.term), fun W hW => ?_, ?_⟩
    · have q0 := (HC.out W hW).2.1
      unfold Oper.quietAt Oper.quietUpon
      simp [go_sem, q0]
    refine hK _ ?_
    clear hK K
    simp only [Act.put, List.setIfInBounds_toArray, List.set_cons_succ, List.set_cons_zero]
    refine wpPlan_q rfl rfl rfl ?_; intro K hK
    go_big_quiet_op
    first | go_big_quiet_on | (refine ⟨_, fun _ _ => rfl, ?_⟩; go_big_quiet_on)
    refine wpPlan_q rfl rfl rfl ?_; intro K hK
    go_big_quiet_op
    first | go_big_quiet_on | (refine ⟨_, fun _ _ => rfl, ?_⟩; go_big_quiet_on)
    refine wpPlan_q rfl rfl rfl ?_; intro K hK
    go_big_quiet_op
    first | go_big_quiet_on | (refine ⟨_, fun _ _ => rfl, ?_⟩; go_big_quiet_on)
    refine wpPlan_q rfl rfl rfl ?_; intro K hK
    go_big_quiet_op
    first | go_big_quiet_on | (refine ⟨_, fun _ _ => rfl, ?_⟩; go_big_quiet_on)
    refine wpPlan_q rfl rfl rfl ?_; intro K hK
    go_big_quiet_op
    first | go_big_quiet_on | (refine ⟨_, fun _ _ => rfl, ?_⟩; go_big_quiet_on)
    refine wpPlan_q rfl rfl rfl ?_; intro K hK
    go_big_quiet_op
    first | go_big_quiet_on | (refine ⟨_, fun _ _ => rfl, ?_⟩; go_big_quiet_on)
    refine wpPlan_q rfl rfl rfl ?_; intro K hK
    go_big_quiet_op
    first | go_big_quiet_on | (refine ⟨_, fun _ _ => rfl, ?_⟩; go_big_quiet_on)
    refine wpPlan_q rfl rfl rfl ?_; intro K hK
    refine ⟨(.slice A n c), fun W hW => ?_, ?_⟩
    · have q0 := (HC.out W hW).2.2.1
      unfold Oper.quietAt Oper.quietUpon
      simp [go_sem, q0]
    refine hK _ ?_
    clear hK K
    simp only [Act.put, List.setIfInBounds_toArray, List.set_cons_succ, List.set_cons_zero]
    refine wpPlan_q rfl rfl rfl ?_; intro K hK
    go_big_quiet_op
    first | go_big_quiet_on | (refine ⟨_, fun _ _ => rfl, ?_⟩; go_big_quiet_on)
    refine wpPlan_q rfl rfl rfl ?_; intro K hK
    go_big_quiet_op
    first | go_big_quiet_on | (refine ⟨_, fun _ _ => rfl, ?_⟩; go_big_quiet_on)
    refine wpPlan_q rfl rfl rfl ?_; intro K hK
    refine ⟨.slice (if c = from_ then A else Option.map (fun x => x.add (from_ * 2)) A) (to_ - from_) (c - from_), fun W hW => ?_, ?_⟩
    · unfold Oper.quietAt Oper.quietUpon
      first
      | (have e : to_ = from_ + 16 := by have := HTO.out; omega); (have e2 : from_ + 16 ≤ c := by omega); (simp [go_sem, hslC, hslD, hslE, e, e2]; done)
      | (have e : to_ = n := by have := HTO.out; omega); (have e2 : n ≤ c := by omega); (have e3 : from_ ≤ n := by omega); (simp [go_sem, e, e2, e3]; done)
    refine hK _ ?_
    clear hK K
    simp only [Act.put, List.setIfInBounds_toArray, List.set_cons_succ, List.set_cons_zero]
    refine wpPlan_q rfl rfl rfl ?_; intro K hK
    go_big_quiet_op
    first | go_big_quiet_on | (refine ⟨_, fun _ _ => rfl, ?_⟩; go_big_quiet_on)
    refine wpPlan_q rfl rfl rfl ?_; intro K hK
    go_big_quiet_op
    first | go_big_quiet_on | (refine ⟨_, fun _ _ => rfl, ?_⟩; go_big_quiet_on)
    refine wpPlan_q rfl rfl rfl ?_; intro K hK
    go_big_quiet_op
    first | go_big_quiet_on | (refine ⟨_, fun _ _ => rfl, ?_⟩; go_big_quiet_on)
    refine wpPlan_q rfl rfl rfl ?_; intro K hK
    refine ⟨(.int .i64 (S.commit : Nat)), fun W hW => ?_, ?_⟩
    · have q0 := (HC.out W hW).2.2.2
      unfold Oper.quietAt Oper.quietUpon
      simp [go_sem, q0]
    refine hK _ ?_
    clear hK K
    simp only [Act.put, List.setIfInBounds_toArray, List.set_cons_succ, List.set_cons_zero]
    refine wpPlan_act true rfl rfl rfl ?_; intro K hK
    go_simp
    refine (HTM.out w0.drew (Below.refl _ _).drew).mono ?_
    rintro e w2 ⟨rfl, hw2⟩
    rw [hw2]
    clear hw2 w2
    refine hK _ _ (fun _ => (Below.refl _ _).drew) ?_
    clear hK K
    refine wpPlan_act true rfl rfl rfl ?_; intro K hK
    go_simp
    refine (HCL.out w0.drew (Below.refl _ _).drew).mono ?_
    rintro e w3 ⟨⟨A4, c4', rfl, ho3⟩, hb3⟩
    have HB3 := Lib.hid (And.intro hb3 ho3)
    refine hK _ _ (fun _ => (Below.refl _ _).drew.trans (hb3.mono (by simp [hsz]))) ?_
    clear hK K hb3 ho3
    try simp only [Act.put, List.setIfInBounds_toArray, List.set_cons_succ, List.set_cons_zero]
    refine wpPlan_q rfl rfl rfl ?_; intro K hK
    go_big_quiet_op
    first | go_big_quiet_on | (refine ⟨_, fun _ _ => rfl, ?_⟩; go_big_quiet_on)
    refine wpPlan_act false rfl rfl rfl ?_; intro K hK
    refine wp_store_row 34 (.tmp 4) (.tmp 46) rfl w.heap.size #[.int .u8 3, .int .i64 (S.id : Nat), .int .i64 (k : Nat), .int .i64 S.term, .int .i64 (from_ : Nat), .int .i64 (termAt S.log from_), .slice A4 (to_ - from_) c4', .int .i64 (S.commit : Nat), .bool false] rfl rfl 34 _ (HZB.out.drew.below HB3.out.1 (show w.heap.size < w0.heap.size by omega)) (by kernel_rfl) (by kernel_rfl) (by kernel_rfl) ?_
    refine hK _ _ (fun h => by cases h) ?_
    clear hK K
    try simp only [Act.put, List.setIfInBounds_toArray, List.set_cons_succ, List.set_cons_zero]
    refine wpPlan_fin ?_
    go_wp2_with fail
    all_goals
      have hs3 : w.heap.size < w3.heap.size := Nat.lt_of_lt_of_le (show w.heap.size < w0.drew.heap.size by simp [hsz]) HB3.out.1.size
      have hbk3 : w3.heap[w.heap.size]? = some (.cells #[.int .u8 0, .int .i64 0, .int .i64 0, .int .i64 0, .int .i64 0, .int .i64 0, .slice none 0 0, .int .i64 0, .bool false] 34 (0, 0)) := HZB.out.drew.below HB3.out.1 (show w.heap.size < w0.heap.size by omega)
      refine bodyPost_ret (results_row (ty := 34) rfl rfl (setRow_heap w3 w.heap.size _ _ 34 (0, 0) hbk3) Try.underlying34 rfl (by kernel_rfl)) rfl ?_
      have hch : Chg (fun b => b = w.heap.size) w3 (w3.setRow w.heap.size #[.int .u8 3, .int .i64 (S.id : Nat), .int .i64 (k : Nat), .int .i64 S.term, .int .i64 (from_ : Nat), .int .i64 (termAt S.log from_), .slice A4 (to_ - from_) c4', .int .i64 (S.commit : Nat), .bool false]) := (Chg.refl (fun b => b = w.heap.size) w3).setRow rfl _
      have e1 : S.send k = ⟨3, S.id, k, S.term, ((from_ : Nat) : Int), termAt S.log from_, (S.log.take to_).drop from_, S.commit, false⟩ := by
        unfold Sv.send
        rw [← HN.out.2, Nat.add_sub_cancel, ← HN.out.1, ← HTO.out]
      have e2 : ((S.log.take to_).drop from_).length = to_ - from_ := by rw [List.length_drop, List.length_take, ← HN.out.1]; omega
      rw [e1]
      refine ⟨A4, c4', by unfold mcell; rw [e2]; rfl, ?_, ?_⟩
      · rw [e2]
        exact own_chg (own_at HB3.out.2 (fun g hg => by have := (World.ownsRow.lt HB3.out.2 g hg).1; simp [hsz] at this; omega)) hch (fun g hg he => by have := (World.ownsRow.lt HB3.out.2 g hg).1; simp [hsz] at this; omega)
      · exact hch.below (HBX.out.trans ((Below.refl w0.heap.size w0).drew.trans HB3.out.1 |>.mono (by omega))) (by omega) (fun b hb => by omega)
end Go.Proofs.Ytjodglepaeomiaa
