/- The document's cache: contract of Shrink. -/
import Derived.Test.YtnipmhidiiondaaShp
namespace Go.Proofs.Ytnipmhidiiondaa
open Go.RowKit Go.Maps

section
variable {w : World} {g cap : Nat} {A : Abs} {AL : Option Addr}
theorem RR.setRoom (h : RR w g A AL cap) (r : Nat) : RR (w.setCell ⟨g, 0, none⟩ (.int .i64 (r : Nat))) g { A with room := r } AL cap ∧ Chg (fun b => b = g) w (w.setCell ⟨g, 0, none⟩ (.int .i64 (r : Nat))) := by
  refine ⟨⟨?_, ?_, h.cp, h.ne, fun a ha => by have := h.lt a ha; simpa [World.setCell] using this⟩, (Chg.refl (fun b => b = g) w).setCell (p := ⟨g, 0, none⟩) rfl _⟩
  · exact h.top.set_ 0 (.int .i64 (r : Nat))
  · exact h.rd.keep (by simp [World.setCell]) (fun p hp _ => World.cell?_setCell_other w _ p _ (fun e => by
      obtain ⟨a, ha, hb2⟩ := hp
      exact h.ne a ha (by rw [hb2, ← e])))
theorem RR.grown {w' : World} {row : Option Nat} (h : RR w g A AL cap) (hg : w.grownBy w' row) (hr : ∀ q, row = some q → q ≠ g ∧ ∀ a, AL = some a → a.block ≠ q) : RR w' g A AL cap :=
  ⟨h.top.grown hg (fun e => (hr g e.symm).1 rfl), h.rd.keep hg.size (fun p hp hlt => World.cell?_of_block (hg.block p.block hlt (fun e => by
    obtain ⟨a, ha, hb⟩ := hp
    exact (hr _ e.symm).2 a ha hb))), h.cp, h.ne, fun a ha => Nat.lt_of_lt_of_le (h.lt a ha) hg.size⟩
end
theorem shrink_ref_no (g : Nat) (R : Int) (w : World) (hR : mayB R = false) :
    Calls Try.prog 23 #[.pointer (some ⟨g, 0, none⟩), .int .i64 R] w fun e w' => e = .returned (.slice none 0 0) ∧ w' = w := by
  have HM := Lib.hid (may_ref R w)
  rw [hR] at HM
  clear hR
  go_enter Try.func23, Try.ntmps23
  go_wp2_with fail
  refine HM.out.mono ?_
  rintro e w1 ⟨rfl, hw1⟩
  rw [hw1]
  clear hw1 w1
  go_wp2_with fail
  go_ret
  exact ⟨rfl, rfl⟩
set_option maxHeartbeats 4000000 in
theorem shrink_ref (g : Nat) (A : Abs) (AL : Option Addr) (cap r : Nat) (w : World) (h : RR w g A AL cap) (hl : A.L.length ≤ 4096) (h1 : 1 ≤ r) (h2 : r ≤ 4096) :
    Calls Try.prog 23 #[.pointer (some ⟨g, 0, none⟩), .int .i64 (r : Nat)] w fun e w' => (∃ A' c', e = .returned (.slice A' (outs A.L r).length c') ∧ w'.ownsRow w.heap.size 9 1 (.slice A' (outs A.L r).length c') (outs A.L r).length (scells (outs A.L r))) ∧ KeepsR w g AL { A with room := r, L := A.L.take r } w' := by
  have HM := Lib.hid (may_ref (r : Nat) w)
  rw [show mayB (r : Nat) = true from by unfold mayB; rw [decide_eq_true (by omega), decide_eq_true (by omega)]; rfl] at HM
  have k0 : w.cell? ⟨g, 0, none⟩ = some (.int .i64 (A.room : Nat)) := h.top.cell 0
  have f0 : w.frozen? ⟨g, 0, none⟩ = false := h.top.frozen 0
  have HR := Lib.hid h
  have HS := Lib.hid (h.setRoom r)
  have HL := Lib.hid hl
  obtain ⟨n, hn⟩ : ∃ n, n = A.L.length := ⟨_, rfl⟩
  rw [← hn] at hl
  have HN := Lib.hid hn
  clear h hn
  go_enter Try.func23, Try.ntmps23
  go_wp2_with fail
  refine HM.out.mono ?_
  rintro e w1 ⟨rfl, hw1⟩
  rw [hw1]
  clear hw1 w1
  go_wp2_with fail
  clear k0 f0
  generalize w.setCell ⟨g, 0, none⟩ (Value.int IntKind.i64 ↑r) = ws at *
  go_loopw [5] (fun s5 wr => ∃ (m c' : Nat) (A' : Option Addr), m ≤ n ∧ (n ≤ r → m = n) ∧ (r ≤ n → r ≤ m) ∧ s5 = .slice A' (outs A.L m).length c' ∧ wr.ownsRow w.heap.size 9 1 (.slice A' (outs A.L m).length c') (outs A.L m).length (scells (outs A.L m)) ∧ RR wr g { A with room := r, L := A.L.take m } AL cap ∧ Chg (fun b => b = g) w wr) (fun s5 _ => n - sliceLen s5)
  case atStart => exact ⟨n, 0, none, by omega, fun _ => rfl, fun h => h, by rw [HN.out, outs_all]; rfl, by rw [HN.out, outs_all]; exact World.ownsRow_nil _ _ _ _, by rw [HN.out, List.take_length]; exact HS.out.1, HS.out.2⟩
  case round =>
    clear HS HM
    obtain ⟨m, c', A', hm, hm1, hm2, rfl, ho, hr, hc⟩ := hrel
    have HO := Lib.hid (And.intro ho (And.intro hr hc))
    have htl : (A.L.take m).length = m := by rw [List.length_take, ← HN.out]; omega
    have k1 : wr.cell? ⟨g, 1, none⟩ = some (.slice AL m cap) := by have h := hr.top.cell 1; unfold rtop at h; dsimp only at h; rw [htl] at h; exact h
    have HTL := Lib.hid htl
    clear ho hr hc htl
    obtain ⟨j, hj⟩ : ∃ j, j = (outs A.L m).length := ⟨_, rfl⟩
    rw [← hj] at HO ⊢
    have HJ := Lib.hid (And.intro hj (show j = n - m by rw [hj, outs_length, ← HN.out]))
    clear hj
    by_cases hmr : r < m
    · have hd : decide ((r : Int) < (m : Int)) = true := decide_eq_true (by omega)
      obtain ⟨i, hmi⟩ : ∃ i, m = i + 1 := ⟨m - 1, by omega⟩
      obtain ⟨x, hx⟩ : ∃ x, A.L[i]? = some x := ⟨_, List.getElem?_eq_getElem (by rw [← HN.out]; omega)⟩
      have hx2 : (A.L.take m)[i]? = some x := by rw [List.getElem?_take_of_lt (by omega)]; exact hx
      obtain ⟨b, o, rfl, hbb, hat⟩ : ∃ b off, AL = some ⟨b, off, none⟩ ∧ b < wr.heap.size ∧ ∀ k x, (A.L.take m)[k]? = some x → wr.cell? ⟨b, off + k * 2, none⟩ = some (.string x.1) ∧ wr.cell? ⟨b, off + k * 2 + 1, none⟩ = some (.int .i64 x.2) := HO.out.2.1.rd.resolve_left (fun h => by have h' : A.L.take m = [] := h; rw [h'] at hx2; cases hx2)
      have c0 := (hat i x hx2).1
      have HBW : Hid (b < w.heap.size) := by rcases HR.out.rd with h | ⟨b', o', hA, hlt, _⟩; · rw [h] at hx; cases hx
                                             · injection hA with hA; injection hA with hA; subst hA; exact hlt
      have hm4 : m ≤ 4096 := by omega
      have him : (m : Int) - 1 = (i : Int) := by omega
      have hi0 : (0 : Int) ≤ (i : Int) := by omega
      have hi1 : (i : Int) < (m : Int) := by omega
      have HMI := Lib.hid hmi
      have HX := Lib.hid hx
      clear hmi hx hx2 hat
      go_wp2_with fail
      refine wp_region_mix [(0, false), (1, false), (2, false), (3, false), (4, false), (5, false), (6, false), (7, false), (8, false), (9, false), (10, false), (11, false), (12, false), (13, false), (14, true), (15, true), (16, true)] 16 (fun W => W.cell? ⟨g, 1, none⟩ = some (.slice (some ⟨b, o, none⟩) m cap) ∧ W.cell? ⟨b, o + i * 2, none⟩ = some (.string x.1)) (by kernel_rfl) rfl (by kernel_rfl) ⟨k1, c0⟩ ?_
      refine wpMix_q rfl rfl rfl ?_; intro K hK
      go_big_quiet_op
      first | go_big_quiet_on | (refine ⟨_, fun _ _ => rfl, ?_⟩; go_big_quiet_on) | (refine ⟨_, fun _ _ _ => rfl, ?_⟩; go_big_quiet_on)
      refine wpMix_q rfl rfl rfl ?_; intro K hK
      go_big_quiet_op
      first | go_big_quiet_on | (refine ⟨_, fun _ _ => rfl, ?_⟩; go_big_quiet_on) | (refine ⟨_, fun _ _ _ => rfl, ?_⟩; go_big_quiet_on)
      refine wpMix_q rfl rfl rfl ?_; intro K hK
      go_big_quiet_op
      first | go_big_quiet_on | (refine ⟨_, fun _ _ => rfl, ?_⟩; go_big_quiet_on) | (refine ⟨_, fun _ _ _ => rfl, ?_⟩; go_big_quiet_on)
      refine wpMix_q rfl rfl rfl ?_; intro K hK
      go_big_quiet_op
      first | go_big_quiet_on | (refine ⟨_, fun _ _ => rfl, ?_⟩; go_big_quiet_on) | (refine ⟨_, fun _ _ _ => rfl, ?_⟩; go_big_quiet_on)
      refine wpMix_q rfl rfl rfl ?_; intro K hK
      refine ⟨.slice (some ⟨b, o, none⟩) m cap, fun W hW => by have := hW.1; have := hW.2; unfold Oper.quietAt Oper.quietUpon; simp [go_sem, *], ?_⟩
      refine hK _ ?_
      clear hK K
      simp only [Act.put, List.setIfInBounds_toArray, List.set_cons_succ, List.set_cons_zero]
      refine wpMix_q rfl rfl rfl ?_; intro K hK
      go_big_quiet_op
      first | go_big_quiet_on | (refine ⟨_, fun _ _ => rfl, ?_⟩; go_big_quiet_on) | (refine ⟨_, fun _ _ _ => rfl, ?_⟩; go_big_quiet_on)
      refine wpMix_q rfl rfl rfl ?_; intro K hK
      go_big_quiet_op
      first | go_big_quiet_on | (refine ⟨_, fun _ _ => rfl, ?_⟩; go_big_quiet_on) | (refine ⟨_, fun _ _ _ => rfl, ?_⟩; go_big_quiet_on)
      refine wpMix_q rfl rfl rfl ?_; intro K hK
      go_big_quiet_op
      first | go_big_quiet_on | (refine ⟨_, fun _ _ => rfl, ?_⟩; go_big_quiet_on) | (refine ⟨_, fun _ _ _ => rfl, ?_⟩; go_big_quiet_on)
      refine wpMix_q rfl rfl rfl ?_; intro K hK
      refine ⟨.slice (some ⟨b, o, none⟩) m cap, fun W hW => by have := hW.1; have := hW.2; unfold Oper.quietAt Oper.quietUpon; simp [go_sem, *], ?_⟩
      refine hK _ ?_
      clear hK K
      simp only [Act.put, List.setIfInBounds_toArray, List.set_cons_succ, List.set_cons_zero]
      refine wpMix_q rfl rfl rfl ?_; intro K hK
      go_big_quiet_op
      first | go_big_quiet_on | (refine ⟨_, fun _ _ => rfl, ?_⟩; go_big_quiet_on) | (refine ⟨_, fun _ _ _ => rfl, ?_⟩; go_big_quiet_on)
      refine wpMix_q rfl rfl rfl ?_; intro K hK
      go_big_quiet_op
      first | go_big_quiet_on | (refine ⟨_, fun _ _ => rfl, ?_⟩; go_big_quiet_on) | (refine ⟨_, fun _ _ _ => rfl, ?_⟩; go_big_quiet_on)
      refine wpMix_q rfl rfl rfl ?_; intro K hK
      go_big_quiet_op
      first | go_big_quiet_on | (refine ⟨_, fun _ _ => rfl, ?_⟩; go_big_quiet_on) | (refine ⟨_, fun _ _ _ => rfl, ?_⟩; go_big_quiet_on)
      refine wpMix_q rfl rfl rfl ?_; intro K hK
      go_big_quiet_op
      first | go_big_quiet_on | (refine ⟨_, fun _ _ => rfl, ?_⟩; go_big_quiet_on) | (refine ⟨_, fun _ _ _ => rfl, ?_⟩; go_big_quiet_on)
      refine wpMix_q rfl rfl rfl ?_; intro K hK
      refine ⟨.string x.1, fun W hW => by have := hW.1; have := hW.2; unfold Oper.quietAt Oper.quietUpon; simp [go_sem, *], ?_⟩
      refine hK _ ?_
      clear hK K
      simp only [Act.put, List.setIfInBounds_toArray, List.set_cons_succ, List.set_cons_zero]
      have hba : Below wr.heap.size wr (wr.drew.alloc (.cells #[.string x.1] 9)) := (Below.refl wr.heap.size wr).drew.alloc (Nat.le_refl _) _
      have HBA := Lib.hid (And.intro hba (And.intro (show g < wr.heap.size from HO.out.2.1.top.lt) hbb))
      clear hba
      refine wpMix_act true rfl rfl rfl ?_; intro K hK
      go_simp
      refine hK _ _ (fun _ => ⟨(HBA.out.1.cell (p := ⟨g, 1, none⟩) HBA.out.2.1).trans k1, (HBA.out.1.cell (p := ⟨b, o + i * 2, none⟩) HBA.out.2.2).trans c0⟩) ?_
      clear hK K
      refine wpMix_act true rfl rfl rfl ?_; intro K hK
      obtain ⟨i0, hi0', hz0, hz1, hz2⟩ := info_parts Try.info9
      refine wp_append_any _ (.tmp 21) (.tmp 35) 35 rfl w.heap.size 9 i0 (.string ⟨#[]⟩) 1 16 Try.underlying35 hi0' hz0 hz1 hz2 rfl (by decide) (.slice A' j c') j (scells (outs A.L m)) rfl (HO.out.1.drew.alloc _) (wr.heap.size + 1) (some ⟨wr.heap.size, 0, none⟩) 1 1 [.string x.1] rfl ⟨rfl, fun _ => ⟨_, rfl, Nat.lt_succ_self _, news_of_blk (heap_alloc_new wr.drew _)⟩⟩ (by intro u hu; rw [List.mem_singleton] at hu; subst hu; rfl) (by have := HJ.out.2; unfold maxLen; omega) (by have := HJ.out.2; omega) (Nat.le_trans HO.out.2.2.size HBA.out.1.size) ?_
      intro v3 w3 ho3 hg3 _
      obtain ⟨A3, c3, rfl, _⟩ := own_form ho3
      have hrow : ∀ q, (Value.slice A' j c').ownBlock = some q → q ≠ g ∧ ∀ a, some (⟨b, o, none⟩ : Addr) = some a → a.block ≠ q := fun q hq => by
        have h1 := (World.ownsRow.lt HO.out.1 q hq).1
        have h2 := HR.out.top.lt
        have h3 := HBW.out
        refine ⟨by omega, fun a ha => ?_⟩
        injection ha with ha
        subst ha
        exact (show b ≠ q by omega)
      have HR3 := Lib.hid ((HO.out.2.1.below HBA.out.1).grown hg3 hrow)
      have HC3 : Hid (Chg (fun b => b = g) w w3) := (((HO.out.2.2.trans (.of_below HBA.out.1)).mono (T' := fun b => b = g ∨ w.heap.size ≤ b) (fun _ h => .inl h)).trans (.of_grown hg3 (fun q hq => .inr (World.ownsRow.lt HO.out.1 q hq).1))).old (fun k hk h => h.resolve_right (by omega))
      have HO3 : Hid (w3.ownsRow w.heap.size 9 1 (.slice A3 (outs A.L i).length c3) (outs A.L i).length (scells (outs A.L i)) ∧ (outs A.L i).length = j + 1) := by
        have e : outs A.L i = outs A.L m ++ [x.1] := by rw [HMI.out]; exact outs_step HX.out
        have e2 : (outs A.L i).length = j + 1 := by rw [e, List.length_append, ← HJ.out.1]; rfl
        rw [e2, e, scells_append]
        exact ⟨ho3, rfl⟩
      have q1 : w3.cell? ⟨g, 1, none⟩ = some (.slice (some ⟨b, o, none⟩) m cap) := by have h := HR3.out.top.cell 1; unfold rtop at h; dsimp only at h; rw [HTL.out] at h; exact h
      have f1 : w3.frozen? ⟨g, 1, none⟩ = false := HR3.out.top.frozen 1
      have q2 : w3.cell? ⟨b, o + i * 2, none⟩ = some (.string x.1) := by
        have hx2 : (A.L.take m)[i]? = some x := by rw [List.getElem?_take_of_lt (by have := HMI.out; omega)]; exact HX.out
        rcases HR3.out.rd with h | ⟨b', o', hA, _, h⟩
        · have h' : A.L.take m = [] := h
          rw [h'] at hx2; cases hx2
        · injection hA with hA
          injection hA with hA1 hA2
          subst hA1; subst hA2
          exact (h i x hx2).1
      refine hK _ _ (fun _ => ⟨q1, q2⟩) ?_
      clear hK K ho3 hg3 hrow k1 c0 q2
      refine wpMix_act false rfl rfl rfl ?_; intro K hK
      go_simp
      refine hK _ _ (fun h => by cases h) ?_
      clear hK K
      refine wpMix_end ?_
      have hmc : (i : Int) ≤ (cap : Int) := by have := HR3.out.cp.1; have h := HTL.out; dsimp only at this; omega
      go_wp2_with fail
      have hcut := HR3.out.cutL (n := i) (by have h := HTL.out; have := HMI.out; show i ≤ (A.L.take m).length; omega)
      have HC := Lib.hid (And.intro (hcut.1.below (Below.refl _ _).drew) (And.intro ((HC3.out.trans hcut.2).trans (.of_below (Below.refl _ _).drew)) (own_chg HO3.out.1 (hcut.2.trans (.of_below (Below.refl _ _).drew)) (fun q hq e => by have h1 := (World.ownsRow.lt HO3.out.1 q hq).1; have h2 := HR.out.top.lt; omega))))
      clear hcut
      go_region
      generalize (w3.setCell ⟨g, 1, none⟩ (Value.slice (some ⟨b, o, none⟩) i cap)).drew = wz at *
      go_wp2_with fail
      go_roundw
      case rel =>
        have e : (A.L.take m).take i = A.L.take i := by rw [List.take_take, Nat.min_eq_left (by have := HMI.out; omega)]
        have hrr := HC.out.1
        dsimp only at hrr
        rw [e] at hrr
        have hmi := HMI.out
        exact ⟨i, c3, A3, by omega, fun h => by omega, fun h => by omega, by rw [HO3.out.2], HC.out.2.2, hrr, HC.out.2.1⟩
      case measure =>
        have hmi := HMI.out
        have hj := HJ.out.2
        show n - (j + 1) < n - j
        omega
    · have hd : decide ((r : Int) < (m : Int)) = false := decide_eq_false (by omega)
      have hd2 : ¬ r < m := hmr
      go_wp2_with fail
      go_ret
      have e1 : outs A.L r = outs A.L m := by
        rcases Nat.lt_or_ge r n with h | h
        · rw [show r = m by omega]
        · have := hm1 h
          unfold outs
          rw [List.drop_of_length_le (by rw [← HN.out]; exact h), List.drop_of_length_le (by rw [← HN.out]; omega)]
      have e2 : A.L.take r = A.L.take m := by
        rcases Nat.lt_or_ge r n with h | h
        · rw [show r = m by omega]
        · have := hm1 h
          rw [List.take_of_length_le (by rw [← HN.out]; exact h), List.take_of_length_le (by rw [← HN.out]; omega)]
      rw [e1, e2, ← HJ.out.1]
      exact ⟨⟨A', c', rfl, HO.out.1⟩, AL, cap, HO.out.2.1, HO.out.2.2, fun a ha => .inl ⟨a, ha, rfl⟩⟩
end Go.Proofs.Ytnipmhidiiondaa
