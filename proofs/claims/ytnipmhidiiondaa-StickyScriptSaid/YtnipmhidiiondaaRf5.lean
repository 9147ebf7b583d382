/- The document's cache: contract of Get. -/
import Derived.Test.YtnipmhidiiondaaRf4
import Derived.Test.YtnipmhidiiondaaMix
namespace Go.Proofs.Ytnipmhidiiondaa
open Go.RowKit Go.Maps

section
variable {w : World} {g cap : Nat} {A : Abs} {AL : Option Addr}
theorem RR.hit (h : RR w g A AL cap) : RR (w.setCell ⟨g, 2, none⟩ (.int .i64 ((A.hits : Int) + 1))) g { A with hits := A.hits + 1 } AL cap ∧ Chg (fun b => b = g) w (w.setCell ⟨g, 2, none⟩ (.int .i64 ((A.hits : Int) + 1))) := by
  refine ⟨⟨?_, ?_, h.cp, h.ne, fun a ha => by have := h.lt a ha; simpa [World.setCell] using this⟩, (Chg.refl (fun b => b = g) w).setCell (p := ⟨g, 2, none⟩) rfl _⟩
  · exact h.top.set_ 2 (.int .i64 ((A.hits : Int) + 1))
  · exact h.rd.keep (by simp [World.setCell]) (fun p hp _ => World.cell?_setCell_other w _ p _ (fun e => by
      obtain ⟨a, ha, hb2⟩ := hp
      exact h.ne a ha (by rw [hb2, ← e])))
theorem RR.miss (h : RR w g A AL cap) : RR (w.setCell ⟨g, 3, none⟩ (.int .i64 ((A.misses : Int) + 1))) g { A with misses := A.misses + 1 } AL cap ∧ Chg (fun b => b = g) w (w.setCell ⟨g, 3, none⟩ (.int .i64 ((A.misses : Int) + 1))) := by
  refine ⟨⟨?_, ?_, h.cp, h.ne, fun a ha => by have := h.lt a ha; simpa [World.setCell] using this⟩, (Chg.refl (fun b => b = g) w).setCell (p := ⟨g, 3, none⟩) rfl _⟩
  · exact h.top.set_ 3 (.int .i64 ((A.misses : Int) + 1))
  · exact h.rd.keep (by simp [World.setCell]) (fun p hp _ => World.cell?_setCell_other w _ p _ (fun e => by
      obtain ⟨a, ha, hb2⟩ := hp
      exact h.ne a ha (by rw [hb2, ← e])))
end
set_option maxHeartbeats 4000000 in
theorem get_ref (g : Nat) (A : Abs) (AL : Option Addr) (cap : Nat) (s : ByteArray) (w : World) (h : RR w g A AL cap) (hnd : (A.L.map (·.1)).Nodup) (hl : A.L.length ≤ 4096) (hh : A.hits ≤ 1000000) (hm : A.misses ≤ 1000000) :
    Calls Try.prog 17 #[.pointer (some ⟨g, 0, none⟩), .string s] w fun e w' => e = .returned (.tuple #[.int .i64 ((lk A.L s).getD 0), .bool (lk A.L s).isSome]) ∧ KeepsR w g AL (getA A s) w' := by
  have HF := Lib.hid (find_ref g A AL cap s w h hl)
  have HR := Lib.hid (And.intro h (And.intro hnd hl))
  obtain ⟨hi_, hhi⟩ : ∃ x, x = A.hits := ⟨_, rfl⟩
  obtain ⟨ms, hms⟩ : ∃ x, x = A.misses := ⟨_, rfl⟩
  have k2 : w.cell? ⟨g, 2, none⟩ = some (.int .i64 (hi_ : Nat)) := by rw [hhi]; exact h.top.cell 2
  have k3 : w.cell? ⟨g, 3, none⟩ = some (.int .i64 (ms : Nat)) := by rw [hms]; exact h.top.cell 3
  have f2 : w.frozen? ⟨g, 2, none⟩ = false := h.top.frozen 2
  have f3 : w.frozen? ⟨g, 3, none⟩ = false := h.top.frozen 3
  rw [← hhi] at hh
  rw [← hms] at hm
  have HHM := Lib.hid (And.intro hhi hms)
  clear h hnd hl hhi hms
  go_enter Try.func17, Try.ntmps17
  go_wp2_with fail
  refine HF.out.mono ?_
  rintro e w1 ⟨⟨z, rfl, hz⟩, hw1⟩
  rw [hw1]
  clear hw1 w1
  rcases hz with ⟨rfl, hz⟩ | ⟨l, v, r, hL, rfl⟩
  · have HZ := Lib.hid hz
    clear hz
    go_wp2_with fail
    go_ret2
    refine ⟨by rw [HZ.out]; rfl, ?_⟩
    have e1 : getA A s = { A with misses := A.misses + 1 } := by unfold getA getL; rw [HZ.out]; rfl
    rw [e1, HHM.out.2]
    exact ⟨AL, cap, HR.out.1.miss.1, HR.out.1.miss.2, fun a ha => .inl ⟨a, ha, rfl⟩⟩
  · have hnd2 : ((l ++ (s, v) :: r).map (·.1)).Nodup := by rw [← hL]; exact HR.out.2.1
    have hlk : lk A.L s = some v := by rw [hL]; exact lk_split (x := (s, v)) hnd2
    have HRM : Hid (rm A.L s = l ++ r) := by rw [hL]; exact rm_split (x := (s, v)) hnd2
    have HZ := Lib.hid hlk
    have hx : A.L[l.length]? = some (s, v) := by rw [hL]; simp
    obtain ⟨n, hn⟩ : ∃ n, n = A.L.length := ⟨_, rfl⟩
    have k1 : w.cell? ⟨g, 1, none⟩ = some (.slice AL n cap) := by rw [hn]; exact HR.out.1.top.cell 1
    obtain ⟨b, o, rfl, hb, hat⟩ : ∃ b off, AL = some ⟨b, off, none⟩ ∧ b < w.heap.size ∧ ∀ k x, A.L[k]? = some x → w.cell? ⟨b, off + k * 2, none⟩ = some (.string x.1) ∧ w.cell? ⟨b, off + k * 2 + 1, none⟩ = some (.int .i64 x.2) := HR.out.1.rd.resolve_left (fun h => by rw [h] at hx; cases hx)
    have hin : l.length < n := by rw [hn]; exact (List.getElem?_eq_some_iff.1 hx).1
    have HL := Lib.hid hL
    obtain ⟨i, hi⟩ : ∃ i, i = l.length := ⟨_, rfl⟩
    have HI := Lib.hid hi
    rw [← hi] at hx hin ⊢
    obtain ⟨c0, c1⟩ := hat i _ hx
    dsimp only at c0 c1
    have hi0 : (0 : Int) ≤ (i : Int) := by omega
    have hin2 : (i : Int) < (n : Int) := by omega
    have hd : decide ((i : Int) < 0) = false := decide_eq_false (by omega)
    have hbg : ¬ (b = g) := HR.out.1.ne _ rfl
    clear hat hx hlk hL hi hin hnd2 hn hb
    go_wp2_with fail
    have HH : Hid (RR ((w.setCell ⟨g, 2, none⟩ (.int .i64 ((hi_ : Int) + 1))).alloc (.cells #[.string s, .int .i64 v] 72)) g { A with hits := A.hits + 1 } (some ⟨b, o, none⟩) cap ∧ Chg (fun b => b = g) w ((w.setCell ⟨g, 2, none⟩ (.int .i64 ((hi_ : Int) + 1))).alloc (.cells #[.string s, .int .i64 v] 72))) := by
      have h := HR.out.1.hit
      rw [← HHM.out.1] at h
      have hb := (Below.refl _ (w.setCell ⟨g, 2, none⟩ (.int .i64 ((hi_ : Int) + 1)))).alloc (Nat.le_refl _) (.cells #[.string s, .int .i64 v] 72)
      rw [← HHM.out.1]
      exact ⟨h.1.below hb, h.2.trans (.of_below hb)⟩
    have HX : Hid (Blk ((w.setCell ⟨g, 2, none⟩ (.int .i64 ((hi_ : Int) + 1))).alloc (.cells #[.string s, .int .i64 v] 72)) w.heap.size 72 #[.string s, .int .i64 v]) := by
      have h := Blk.new (w.setCell ⟨g, 2, none⟩ (.int .i64 ((hi_ : Int) + 1))) 72 #[.string s, .int .i64 v]
      rw [show (w.setCell ⟨g, 2, none⟩ (.int .i64 ((hi_ : Int) + 1))).heap.size = w.heap.size by simp [World.setCell]] at h
      exact h
    clear k1 k2 k3 f2 f3 c0 c1
    generalize (w.setCell ⟨g, 2, none⟩ (.int .i64 ((hi_ : Int) + 1))).alloc (.cells #[.string s, .int .i64 v] 72) = wq at *
    obtain ⟨bx, hbx⟩ : ∃ bx, bx = w.heap.size := ⟨_, rfl⟩
    rw [← hbx] at HX ⊢
    have HBX := Lib.hid hbx
    clear hbx
    have HW := Lib.hid (without_ref g { A with hits := A.hits + 1 } (some ⟨b, o, none⟩) cap l r (s, v) wq.drew (HH.out.1.below (Below.refl _ _).drew) HL.out HR.out.2.2)
    rw [← HI.out] at HW
    refine wp_region_mix [(0, false), (1, false), (2, false), (3, false), (4, true), (5, true), (6, false), (7, false), (8, true)] 8 (fun W => Blk W bx 72 #[.string s, .int .i64 v]) (by kernel_rfl) rfl (by kernel_rfl) HX.out.drew ?_
    refine wpMix_q rfl rfl rfl ?_; intro K hK
    go_big_quiet_op
    go_big_quiet_on
    refine wpMix_q rfl rfl rfl ?_; intro K hK
    refine ⟨.agg #[.string s, .int .i64 v], fun W hW => ?_, ?_⟩
    · have q0 : W.cell? ⟨bx, 0, none⟩ = some (.string s) := hW.cell 0
      have q1 : W.cell? ⟨bx, 1, none⟩ = some (.int .i64 v) := hW.cell 1
      unfold Oper.quietAt Oper.quietUpon
      simp [go_sem, q0, q1]
    refine hK _ ?_
    clear hK K
    simp only [Act.put, List.setIfInBounds_toArray, List.set_cons_succ, List.set_cons_zero]
    refine wpMix_q rfl rfl rfl ?_; intro K hK
    go_big_quiet_op
    go_big_quiet_on
    refine wpMix_q rfl rfl rfl ?_; intro K hK
    go_big_quiet_op
    go_big_quiet_on
    refine wpMix_act true rfl rfl rfl ?_; intro K hK
    go_simp
    refine HW.out.mono ?_
    rintro e w2 ⟨A2, c2, rfl, hr2, hc2, hn2, hb2⟩
    refine hK _ _ (fun _ => HX.out.drew.below hb2 HX.out.drew.lt) ?_
    clear hK K
    have HLL : Hid ((l ++ r).length ≤ 4096) := by have h1 := congrArg List.length HL.out; have h2 := HR.out.2.2; rw [List.length_append, List.length_cons] at h1; show (l ++ r).length ≤ 4096; rw [List.length_append]; omega
    have HX2 := Lib.hid (HX.out.drew.below hb2 HX.out.drew.lt)
    have hbq : Below wq.heap.size wq w2 := (Below.refl wq.heap.size wq).drew.trans (hb2.mono (show wq.heap.size ≤ wq.drew.heap.size from Nat.le_refl _))
    have HRW := Lib.hid (And.intro (HH.out.1.below hbq) (Chg.trans HH.out.2 (.of_below hbq)))
    clear hbq
    have HAH := Lib.hid (ahead_ref s v A2 (l ++ r).length c2 (l ++ r) w2 rfl hr2 (by have := HLL.out; omega))
    obtain ⟨n2, hn2'⟩ : ∃ n2, n2 = (l ++ r).length := ⟨_, rfl⟩
    rw [← hn2'] at HAH ⊢
    clear hr2 hc2 hn2 hb2 hn2'
    refine wpMix_act true rfl rfl rfl ?_; intro K hK
    go_simp
    refine HAH.out.mono ?_
    rintro e w3 ⟨A3, c3, rfl, hr3, hc3, hn3, hb3⟩
    refine hK _ _ (fun _ => HX2.out.below hb3 HX2.out.lt) ?_
    clear hK K
    have HK := Lib.hid (KeepsR.from HRW.out.2 (HRW.out.1.newL hb3 hr3 hc3 hn3))
    have HT := Lib.hid (HRW.out.1.below hb3).top
    have HX3 := Lib.hid (HX2.out.below hb3 HX2.out.lt)
    have HBG : Hid (bx ≠ g) := by have h1 := HR.out.1.top.lt; rw [← HBX.out] at h1; exact (show bx ≠ g by omega)
    obtain ⟨n3, hn3'⟩ : ∃ n3, n3 = ((s, v) :: (l ++ r)).length := ⟨_, rfl⟩
    rw [← hn3'] at HK ⊢
    clear hr3 hc3 hn3 hb3 hn3'
    have k4 : w3.cell? ⟨g, 1, none⟩ = some (.slice (some ⟨b, o, none⟩) A.L.length cap) := HT.out.cell 1
    have f4 : w3.frozen? ⟨g, 1, none⟩ = false := HT.out.frozen 1
    refine wpMix_q rfl rfl rfl ?_; intro K hK
    go_big_quiet_op
    first | go_big_quiet_on | (refine ⟨_, fun _ _ => rfl, ?_⟩; go_big_quiet_on)
    refine wpMix_q rfl rfl rfl ?_; intro K hK
    go_big_quiet_op
    first | go_big_quiet_on | (refine ⟨_, fun _ _ => rfl, ?_⟩; go_big_quiet_on)
    refine wpMix_act false rfl rfl rfl ?_; intro K hK
    go_simp
    refine hK _ _ (fun h => by cases h) ?_
    clear hK K
    refine wpMix_end ?_
    have kx : (w3.setCell ⟨g, 1, none⟩ (Value.slice A3 n3 c3)).cell? ⟨bx, 1, none⟩ = some (.int .i64 v) := (World.cell?_setCell_other w3 _ _ _ (fun e => HBG.out (congrArg Addr.block e.symm))).trans (HX3.out.cell 1)
    clear k4 f4
    generalize w3.setCell ⟨g, 1, none⟩ (Value.slice A3 n3 c3) = wz at *
    go_wp2_with fail
    go_ret2
    have e2 : getA A s = { A with L := (s, v) :: (l ++ r), hits := A.hits + 1 } := by unfold getA getL; rw [HZ.out, HRM.out]; rfl
    exact ⟨by rw [HZ.out]; rfl, by rw [e2]; exact HK.out⟩
end Go.Proofs.Ytnipmhidiiondaa
