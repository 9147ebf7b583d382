/- The document's Parts: contract. -/
import Derived.Test.YtpdofcjgpomehaaMks
import Derived.Test.YtpdofcjgpomehaaRek
import Derived.Test.YtpdofcjgpomehaaRcw
import Derived.Test.YtpdofcjgpomehaaFrk
namespace Go.Proofs.Ytpdofcjgpomehaa
open Go.RowKit

theorem posL_get : ∀ (ks : List Tr) (p i : Nat), i < ks.length → (posL p ks)[i]? = some (p + (flats (ks.take i)).length)
  | [], p, i, h => by simp at h
  | k :: ks, p, 0, _ => by simp [posL, flats]
  | k :: ks, p, i + 1, h => by
    rw [posL, List.getElem?_cons_succ, posL_get ks _ i (by simpa using h), List.take_succ_cons, flats, List.length_append, Nat.add_assoc]
theorem TreesAt.mono {w : World} {b b' : Nat} {vs : List Value} {ls : List (List Tw)} (h : TreesAt w b vs ls) (hb : b' ≤ b) : TreesAt w b' vs ls :=
  ⟨h.len, fun i v l hv hl => by
    obtain ⟨A, c, he, ho⟩ := h.at_ i v l hv hl
    exact ⟨A, c, he, own_at ho (fun g hg => Nat.le_trans hb (World.ownsRow.lt ho g hg).1)⟩, h.far⟩
/-- Appends, each as one operation. -/
theorem wp_app_twigs {o : Oper} {a : Act} {W : World} {K : Act → World → Prop} {Q : Exit → Act → World → Prop} (sl x : Operand)
    (ho : o.op = .call { callee := .builtin .append, args := #[sl, x], argTypes := #[25, 25] }) (base n m cap c B : Nat) (A X : Option Addr) (l L : List Tw)
    (hs : a.eval sl = .slice A n cap) (hown : W.ownsRow base 33 4 (.slice A n cap) n (wcells l)) (hx : a.eval x = .slice X m c) (hr : Reads W B 4 X m (wcells L)) (hb : n + m ≤ 100000) (hbase : base ≤ W.heap.size)
    (h : ∀ A' c' W', W'.ownsRow base 33 4 (.slice A' (n + m) c') (n + m) (wcells (l ++ L)) → W.grownBy W' (Value.slice A n cap).ownBlock → K (a.put o.dst (.slice A' (n + m) c')) W') :
    o.wp Try.prog a W K Q := by
  obtain ⟨i0, hi0, hz0, hz1, hz2⟩ := info_parts Try.info33
  refine wp_append_any W sl x 25 ho base 33 i0 (.agg #[.int .u8 0, .int .i64 0, .int .i64 0, .string ⟨#[]⟩]) 4 40 Try.underlying25 hi0 hz0 hz1 hz2 rfl (by decide) (.slice A n cap) n (wcells l) hs hown B X m c (wcells L) hx hr wcells_one (by unfold maxLen; omega) (by omega) hbase ?_
  intro v3 w3 ho3 hg3 _
  obtain ⟨A3, c3, rfl, _⟩ := own_form ho3
  refine h A3 c3 w3 ?_ hg3
  rw [wcells_append]
  exact ho3
theorem wp_app_tree {o : Oper} {a : Act} {W : World} {K : Act → World → Prop} {Q : Exit → Act → World → Prop} (sl x : Operand)
    (ho : o.op = .call { callee := .builtin .append, args := #[sl, x], argTypes := #[27, 27] }) (base g n cap : Nat) (A : Option Addr) (l : List Value) (A1 : Option Addr) (n1 c1 : Nat)
    (hs : a.eval sl = .slice A n cap) (hown : W.ownsRow base 25 1 (.slice A n cap) n l) (hx : a.eval x = .slice (some ⟨g, 0, none⟩) 1 1)
    (hg : W.heap[g]? = some (.cells #[.slice A1 n1 c1] 25 (0, 0))) (hm : n ≤ 100000) (hb : base ≤ W.heap.size)
    (h : ∀ A' c' W', W'.ownsRow base 25 1 (.slice A' (n + 1) c') (n + 1) (l ++ [.slice A1 n1 c1]) → W.grownBy W' (Value.slice A n cap).ownBlock → K (a.put o.dst (.slice A' (n + 1) c')) W') :
    o.wp Try.prog a W K Q := by
  obtain ⟨i0, hi0, hz0, hz1, hz2⟩ := info_parts Try.info25
  refine wp_append_any W sl x 27 ho base 25 i0 (.slice none 0 0) 1 24 Try.underlying27 hi0 hz0 hz1 hz2 rfl (by decide) (.slice A n cap) n l hs hown (g + 1) (some ⟨g, 0, none⟩) 1 1 [.slice A1 n1 c1] hx ⟨rfl, fun _ => ⟨_, rfl, Nat.lt_succ_self g, news_of_blk hg⟩⟩ (by intro u hu; rw [List.mem_singleton] at hu; subst hu; rfl) (by unfold maxLen; omega) (by omega) hb ?_
  intro v3 w3 ho3 hg3 _
  obtain ⟨A3, c3, rfl, _⟩ := own_form ho3
  exact h A3 c3 w3 ho3 hg3
theorem refParts_bad (A : Option Addr) (c : Nat) (l : List Tw) (w : World) (hbad : (chk l).2 ≠ 0) (hok : ∀ x ∈ l, TwOk x) (hrd : RdW w A l) (hlen : l.length ≤ 9223372036854775807) (hA : ∀ a, A = some a → l ≠ [] → a.block < w.heap.size) :
    Calls Try.prog 15 #[.slice A l.length c] w fun e w' => e = .returned (.tuple #[.slice none 0 0, .int .i64 (chk l).2]) ∧ Below w.heap.size w w' := by
  have HC := Lib.hid (refCheck_any A c l w hok hrd hlen)
  obtain ⟨er, her⟩ : ∃ z, z = (chk l).2 := ⟨_, rfl⟩
  unfold RckPost at HC
  rw [← her] at HC hbad ⊢
  have hne : (er != 0) = true := by rw [bne_iff_ne]; exact hbad
  obtain ⟨n, hn⟩ : ∃ n, n = l.length := ⟨_, rfl⟩
  rw [← hn] at HC hlen ⊢
  clear hok hrd hA hn her hbad
  go_enter Try.func15, Try.ntmps15
  go_wp2_with fail
  refine HC.out.mono ?_
  rintro e w1 ⟨⟨zz, rfl⟩, hb1⟩
  have HB := Lib.hid hb1
  clear hb1
  go_wp2_with fail
  go_ret2
  exact ⟨rfl, HB.out⟩

set_option maxRecDepth 100000 in
set_option maxHeartbeats 4000000 in
theorem refParts_any (x : Tw) (ks : List Tr) (A : Option Addr) (c : Nat) (l : List Tw) (w : World) (hT : Right l (.node x ks)) (hd : (Tr.node x ks).depth ≤ 40) (hok : ∀ x ∈ l, TwOk x) (hrd : RdW w A l) (hlen : l.length ≤ 2048) (hcap : l.length ≤ c ∧ c ≤ 9223372036854775807) :
    Calls Try.prog 15 #[.slice A l.length c] w (PartsPost w (ks.map Tr.flat)) := by
  have HC := Lib.hid (refCheck_any A c l w hok hrd (by omega))
  rw [chk_right hT hlen, if_pos hd] at HC
  unfold RckPost at HC
  have HKD := Lib.hid (fun W (hW : Below w.heap.size w W) => refKids_any x ks A c 0 l [] W (by omega) (ok_cok _ _ hT.1) (by rw [List.drop_zero, List.append_nil]; exact hT.2.symm) (hrd.below hW))
  obtain ⟨n, hn⟩ : ∃ n, n = l.length := ⟨_, rfl⟩
  obtain ⟨q, hq⟩ : ∃ q, q = ks.length := ⟨_, rfl⟩
  rw [← hn] at HC HKD hlen hcap ⊢
  rw [← hq] at HKD
  have hck : coks ks := by have := ok_cok _ _ hT.1; rw [Tr.cok] at this; exact this.2
  have hl1 : l.drop 1 = flats ks := by rw [← hT.2, Tr.flat]; rfl
  have hpos : 0 < n := by rw [hn, ← hT.2]; exact flat_pos _
  obtain ⟨b, off, rfl⟩ : ∃ b off, A = some ⟨b, off, none⟩ := by
    rcases hrd with h | ⟨b, off, h, _⟩
    · rw [h] at hn; simp at hn; omega
    · exact ⟨b, off, h⟩
  have HN := Lib.hid (And.intro hn (And.intro hck (And.intro hl1 hq)))
  have HR := Lib.hid hrd
  obtain ⟨hc1, hc2⟩ := hcap
  have hq9 : q ≤ 100000 := by have := len_flats ks; have h := drop_len hl1; omega
  clear hok hrd hn hT hd hck hl1 hq
  go_enter Try.func15, Try.ntmps15
  go_wp2_with fail
  refine HC.out.mono ?_
  rintro e w1 ⟨⟨zz, rfl⟩, hb1⟩
  have HB := Lib.hid hb1
  clear hb1
  go_wp2_with fail
  refine (HKD.out w1 HB.out).mono ?_
  rintro e wk ⟨⟨Ak, ck, rfl, hok⟩, hbk⟩
  have HK := Lib.hid (And.intro hok (HB.out.trans (hbk.mono HB.out.size)))
  clear hok hbk HC HKD
  go_wp2_with fail
  go_loopw [7, 8] (fun s7 s8 wr => ∃ (i c1 : Nat) (A1 : Option Addr) (vs : List Value), s7 = .slice A1 i c1 ∧ s8 = .int .i64 (i : Nat) ∧ i ≤ q ∧ wr.ownsRow wk.heap.size 25 1 (.slice A1 i c1) i vs ∧ TreesAt wr wk.heap.size vs ((ks.take i).map Tr.flat) ∧ Below wk.heap.size wk wr) (fun _ s8 _ => q - (intOf s8).toNat)
  case atStart => exact ⟨0, 0, none, [], rfl, rfl, by omega, World.ownsRow_nil _ _ _ _, TreesAt.none_ _ _, Below.refl _ _⟩
  case round =>
    obtain ⟨i, c1, A1, vs, rfl, rfl, hi, ho, hts, hb⟩ := hrel
    have HI := Lib.hid (And.intro ho (And.intro hts hb))
    clear ho hts hb
    by_cases hlt : i < q
    · have hd1 : decide ((i : Int) < (q : Int)) = true := decide_eq_true (by omega)
      have hik : i < ks.length := by rw [← HN.out.2.2.2]; exact hlt
      have hkd : ks.drop i = ks[i] :: ks.drop (i + 1) := List.drop_eq_getElem_cons hik
      obtain ⟨p, hp⟩ : ∃ p, p = 0 + 1 + (flats (ks.take i)).length := ⟨_, rfl⟩
      have hdr : l.drop p = ks[i].flat ++ flats (ks.drop (i + 1)) := by
        have h := HN.out.2.2.1
        conv at h => rhs; rw [← List.take_append_drop i ks, flats_append, hkd, flats]
        rw [hp]
        exact drop_app h
      have hckk : (ks[i]).cok := by
        have h := HN.out.2.1
        rw [← List.take_append_drop i ks, coks_append, hkd, coks] at h
        exact h.2.1
      have HE := Lib.hid (fun W (hW : Below w.heap.size w W) => refEnd_any (some ⟨b, off, none⟩) c l (by rw [← HN.out.1]; omega) (ks[i]).flat.length ks[i] p (flats (ks.drop (i + 1))) W (Nat.le_refl _) hckk hdr (HR.out.below hW))
      rw [← HN.out.1] at HE
      obtain ⟨g, capk, hkv, hgb, hgl⟩ := HK.out.1.form (by omega)
      have hAk : Ak = some ⟨g, 0, none⟩ := by injection hkv
      subst hAk
      have HPC : Hid (∀ W, Below wk.heap.size wk W → W.cell? ⟨g, i, none⟩ = some (.int .i64 (p : Nat))) := fun W hW => by
        have h1 : (ncells (posL (0 + 1) ks))[i]? = some (.int .i64 (p : Nat)) := by
          rw [ncells, List.getElem?_map, posL_get ks _ i hik, hp]; rfl
        have h2 := (own_below HK.out.1 hW).cells (g := g) rfl i _ h1
        rw [addr_add, Nat.zero_add] at h2
        exact h2
      obtain ⟨k, hk⟩ : ∃ k, k = ks[i] := ⟨_, rfl⟩
      rw [← hk] at HE hdr
      obtain ⟨kl, hkl⟩ : ∃ q, q = k.flat.length := ⟨_, rfl⟩
      rw [← hkl] at HE
      have hkp : 0 < kl ∧ p + kl ≤ n := by
        have h1 := drop_len hdr
        have h2 := flat_pos k
        have := HN.out.1
        rw [List.length_append] at h1
        omega
      have HKK : Hid ((l.take (p + kl)).drop p = k.flat ∧ (ks.take (i + 1)).map Tr.flat = (ks.take i).map Tr.flat ++ [k.flat] ∧ k.flat.length = kl) := by
        refine ⟨?_, ?_, hkl.symm⟩
        · rw [List.drop_take, hdr, hkl, Nat.add_sub_cancel_left]; simp
        · rw [List.take_succ_eq_append_getElem hik, List.map_append, ← hk]; rfl
      obtain ⟨hkp1, hkp2⟩ := hkp
      clear hdr hkd hckk hk hkl hp hik hkv
      have hi0 : (0 : Int) ≤ (i : Int) := by omega
      have hin : (i : Int) < (q : Int) := by omega
      have hne : ¬ (c : Int) < (p : Int) + (kl : Int) := by omega
      have hne2 : ¬ c < p + kl := by omega
      have hne3 : ¬ p + kl < p := by omega
      go_wp2_with fail
      obtain ⟨wA, hwA⟩ : ∃ x, x = (wr.alloc (.cells #[] 33)).drew := ⟨_, rfl⟩
      have HWA := Lib.hid hwA
      have HBA : Hid (Below wr.heap.size wr wA) := by rw [hwA]; exact ((Below.refl _ wr).alloc (Nat.le_refl _) _).drew
      have HOA : Hid (wA.ownsRow wr.heap.size 33 4 (.slice (some ⟨wr.heap.size, 0, none⟩) 0 0) 0 (wcells [])) := by
        rw [hwA]
        exact ⟨rfl, .inr ⟨wr.heap.size, 0, _, rfl, Nat.le_refl _, heap_alloc_new wr _, Nat.le_refl _, by decide, rfl, rfl⟩⟩
      have HBK : Hid (Below w.heap.size w wr) := HK.out.2.trans (HI.out.2.2.mono HK.out.2.size)
      have HRD : Hid (Reads wA wA.heap.size 4 (some ⟨b, off + p * 4, none⟩) kl (wcells k.flat)) := by
        have h := ((HR.out.below (HBK.out.trans (HBA.out.mono HBK.out.size))).cut p (p + kl)).reads
        rw [HKK.out.1, HKK.out.2.2] at h
        exact h
      have HSUB := Lib.hid (show p + kl - p = kl from by omega)
      have hkb : 0 + kl ≤ 100000 := by omega
      have hib : i ≤ 100000 := by omega
      clear hwA
      refine wp_region_plan (.q 0 (.q 2 (.q 3 (.q 4 (.q 5 (.q 6 (.q 7 (.q 8 (.q 9 (.q 10 (.q 11 (.a2 1 (.a1 12 (.q 13 (.a1 14 (.a1 15 (.a1 16 (.q 17 .fin)))))) 12 (.q 13 (.a1 1 (.a1 14 (.a1 15 (.a1 16 (.q 17 .fin)))))))))))))))))) 16 (fun W => Below wk.heap.size wk W) (by kernel_rfl) rfl (by kernel_rfl) HI.out.2.2.drew ?_
      refine wpPlan_q rfl rfl rfl ?_; intro K hK
      go_big_quiet_op
      first | go_big_quiet_on | (refine ⟨_, fun _ _ => rfl, ?_⟩; go_big_quiet_on)
      refine wpPlan_q rfl rfl rfl ?_; intro K hK
      go_big_quiet_op
      first | go_big_quiet_on | (refine ⟨_, fun _ _ => rfl, ?_⟩; go_big_quiet_on)
      refine wpPlan_q rfl rfl rfl ?_; intro K hK
      go_big_quiet_op
      first | go_big_quiet_on | (refine ⟨_, fun _ _ => rfl, ?_⟩; go_big_quiet_on)
      refine wpPlan_q rfl rfl rfl ?_; intro K hK
      go_big_quiet_op
      first | go_big_quiet_on | (refine ⟨_, fun _ _ => rfl, ?_⟩; go_big_quiet_on)
      refine wpPlan_q rfl rfl rfl ?_; intro K hK
      go_big_quiet_op
      first | go_big_quiet_on | (refine ⟨_, fun _ _ => rfl, ?_⟩; go_big_quiet_on)
      refine wpPlan_q rfl rfl rfl ?_; intro K hK
      refine ⟨.int .i64 (p : Nat), fun W hW => ?_, ?_⟩
      · have q0 := HPC.out W hW
        unfold Oper.quietAt Oper.quietUpon
        simp [go_sem, q0]
      refine hK _ ?_
      clear hK K
      simp only [Act.put, List.setIfInBounds_toArray, List.set_cons_succ, List.set_cons_zero]
      refine wpPlan_q rfl rfl rfl ?_; intro K hK
      go_big_quiet_op
      first | go_big_quiet_on | (refine ⟨_, fun _ _ => rfl, ?_⟩; go_big_quiet_on)
      refine wpPlan_q rfl rfl rfl ?_; intro K hK
      go_big_quiet_op
      first | go_big_quiet_on | (refine ⟨_, fun _ _ => rfl, ?_⟩; go_big_quiet_on)
      refine wpPlan_q rfl rfl rfl ?_; intro K hK
      go_big_quiet_op
      first | go_big_quiet_on | (refine ⟨_, fun _ _ => rfl, ?_⟩; go_big_quiet_on)
      refine wpPlan_q rfl rfl rfl ?_; intro K hK
      go_big_quiet_op
      first | go_big_quiet_on | (refine ⟨_, fun _ _ => rfl, ?_⟩; go_big_quiet_on)
      refine wpPlan_q rfl rfl rfl ?_; intro K hK
      refine ⟨.int .i64 (p : Nat), fun W hW => ?_, ?_⟩
      · have q0 := HPC.out W hW
        unfold Oper.quietAt Oper.quietUpon
        simp [go_sem, q0]
      refine hK _ ?_
      clear hK K
      simp only [Act.put, List.setIfInBounds_toArray, List.set_cons_succ, List.set_cons_zero]
      refine wpPlan_two true true rfl rfl rfl rfl rfl rfl ?_ ?_
      · intro K hK
        go_simp
        rw [← HWA.out]
        refine hK _ _ (fun _ => HI.out.2.2.trans (HBA.out.mono HI.out.2.2.size)) ?_
        clear hK K
        refine wpPlan_act true rfl rfl rfl ?_; intro K hK
        go_simp
        refine (HE.out wA (HBK.out.trans (HBA.out.mono HBK.out.size))).mono ?_
        rintro e w2 ⟨rfl, hw2⟩
        rw [hw2]
        clear hw2 w2
        refine hK _ _ (fun _ => HI.out.2.2.trans (HBA.out.mono HI.out.2.2.size)) ?_
        clear hK K
        refine wpPlan_q rfl rfl rfl ?_; intro K hK
        go_big_quiet_op
        first | go_big_quiet_on | (refine ⟨_, fun _ _ => rfl, ?_⟩; go_big_quiet_on)
        try rw [HSUB.out]
        refine wpPlan_act true rfl rfl rfl ?_; intro K hK
        refine wp_app_twigs (.tmp 26) (.tmp 38) rfl wr.heap.size 0 kl 0 (c - p) wA.heap.size (some ⟨wr.heap.size, 0, none⟩) (some ⟨b, off + p * 4, none⟩) [] k.flat rfl HOA.out rfl HRD.out hkb HBA.out.size ?_
        intro A3 c3 w3 ho3 hg3
        have HB3 : Hid (Below wr.heap.size wr w3) := HBA.out.grown hg3 HBA.out.size (fun r hr => (World.ownsRow.lt HOA.out r hr).1)
        have HO3 := Lib.hid ho3
        refine hK _ _ (fun _ => HI.out.2.2.trans (HB3.out.mono HI.out.2.2.size)) ?_
        clear hK K ho3 hg3
        rw [Nat.zero_add] at HO3 ⊢
        refine wpPlan_act true rfl rfl rfl ?_; intro K hK
        go_simp
        refine hK _ _ (fun _ => (HI.out.2.2.trans (HB3.out.mono HI.out.2.2.size)).alloc (Nat.le_trans HI.out.2.2.size HB3.out.size) _) ?_
        clear hK K
        refine wpPlan_act false rfl rfl rfl ?_; intro K hK
        refine wp_app_tree (.tmp 25) (.tmp 40) rfl wk.heap.size w3.heap.size i c1 A1 vs A3 kl c3 rfl ((own_below HI.out.1 HB3.out).alloc _) rfl (heap_alloc_new w3 _) hib (by have := HI.out.2.2.size; have := HB3.out.size; simp; omega) ?_
        intro A4 c4 w4 ho4 hg4
        have H4 := Lib.hid (And.intro ho4 hg4)
        refine hK _ _ (fun h => by cases h) ?_
        clear hK K ho4 hg4
        simp only [Act.put, List.setIfInBounds_toArray, List.set_cons_succ, List.set_cons_zero]
        refine wpPlan_p rfl rfl rfl ?_; intro K hK
        refine ⟨.slice A4 (i + 1) c4, fun W hW => ?_, ?_⟩
        · unfold Oper.quietAt Oper.quietUpon
          simp [go_sem]
        refine hK _ ?_
        clear hK K
        simp only [Act.put, List.setIfInBounds_toArray, List.set_cons_succ, List.set_cons_zero]
        refine wpPlan_fin ?_
        go_wp2_with fail
        go_roundw
        case rel =>
          have hts3 := HI.out.2.1.snoc_below HI.out.2.2.size HB3.out (by have h := HO3.out; rw [← HKK.out.2.2] at h; exact h)
          have hts3a := hts3.below ((Below.refl w3.heap.size w3).alloc (Nat.le_refl _) (.cells #[.slice A3 kl c3] 25))
          have hown := (own_below HI.out.1 HB3.out).alloc (.cells #[.slice A3 kl c3] 25)
          have hts4 := hts3a.grown_out hown H4.out.2
          refine ⟨i + 1, c4, A4, vs ++ [.slice A3 kl c3], rfl, by go_num, by omega, H4.out.1, ?_, ?_⟩
          · rw [HKK.out.2.1]
            rw [HKK.out.2.2] at hts4
            exact hts4
          · exact ((HI.out.2.2.trans (HB3.out.mono HI.out.2.2.size)).alloc (Nat.le_trans HI.out.2.2.size HB3.out.size) _).grown H4.out.2 (by have := HI.out.2.2.size; have := HB3.out.size; simp; omega) (fun r hr => (World.ownsRow.lt HI.out.1 r hr).1)
        case measure => simp [intOf]; omega
      · intro K hK
        go_simp
        refine (HE.out wr.drew HBK.out.drew).mono ?_
        rintro e w2 ⟨rfl, hw2⟩
        rw [hw2]
        clear hw2 w2
        refine hK _ _ (fun _ => HI.out.2.2.drew) ?_
        clear hK K
        refine wpPlan_q rfl rfl rfl ?_; intro K hK
        go_big_quiet_op
        first | go_big_quiet_on | (refine ⟨_, fun _ _ => rfl, ?_⟩; go_big_quiet_on)
        refine wpPlan_act true rfl rfl rfl ?_; intro K hK
        go_simp
        rw [← HWA.out]
        refine hK _ _ (fun _ => HI.out.2.2.trans (HBA.out.mono HI.out.2.2.size)) ?_
        clear hK K
        try rw [HSUB.out]
        refine wpPlan_act true rfl rfl rfl ?_; intro K hK
        refine wp_app_twigs (.tmp 26) (.tmp 38) rfl wr.heap.size 0 kl 0 (c - p) wA.heap.size (some ⟨wr.heap.size, 0, none⟩) (some ⟨b, off + p * 4, none⟩) [] k.flat rfl HOA.out rfl HRD.out hkb HBA.out.size ?_
        intro A3 c3 w3 ho3 hg3
        have HB3 : Hid (Below wr.heap.size wr w3) := HBA.out.grown hg3 HBA.out.size (fun r hr => (World.ownsRow.lt HOA.out r hr).1)
        have HO3 := Lib.hid ho3
        refine hK _ _ (fun _ => HI.out.2.2.trans (HB3.out.mono HI.out.2.2.size)) ?_
        clear hK K ho3 hg3
        rw [Nat.zero_add] at HO3 ⊢
        refine wpPlan_act true rfl rfl rfl ?_; intro K hK
        go_simp
        refine hK _ _ (fun _ => (HI.out.2.2.trans (HB3.out.mono HI.out.2.2.size)).alloc (Nat.le_trans HI.out.2.2.size HB3.out.size) _) ?_
        clear hK K
        refine wpPlan_act false rfl rfl rfl ?_; intro K hK
        refine wp_app_tree (.tmp 25) (.tmp 40) rfl wk.heap.size w3.heap.size i c1 A1 vs A3 kl c3 rfl ((own_below HI.out.1 HB3.out).alloc _) rfl (heap_alloc_new w3 _) hib (by have := HI.out.2.2.size; have := HB3.out.size; simp; omega) ?_
        intro A4 c4 w4 ho4 hg4
        have H4 := Lib.hid (And.intro ho4 hg4)
        refine hK _ _ (fun h => by cases h) ?_
        clear hK K ho4 hg4
        simp only [Act.put, List.setIfInBounds_toArray, List.set_cons_succ, List.set_cons_zero]
        refine wpPlan_p rfl rfl rfl ?_; intro K hK
        refine ⟨.slice A4 (i + 1) c4, fun W hW => ?_, ?_⟩
        · unfold Oper.quietAt Oper.quietUpon
          simp [go_sem]
        refine hK _ ?_
        clear hK K
        simp only [Act.put, List.setIfInBounds_toArray, List.set_cons_succ, List.set_cons_zero]
        refine wpPlan_fin ?_
        go_wp2_with fail
        go_roundw
        case rel =>
          have hts3 := HI.out.2.1.snoc_below HI.out.2.2.size HB3.out (by have h := HO3.out; rw [← HKK.out.2.2] at h; exact h)
          have hts3a := hts3.below ((Below.refl w3.heap.size w3).alloc (Nat.le_refl _) (.cells #[.slice A3 kl c3] 25))
          have hown := (own_below HI.out.1 HB3.out).alloc (.cells #[.slice A3 kl c3] 25)
          have hts4 := hts3a.grown_out hown H4.out.2
          refine ⟨i + 1, c4, A4, vs ++ [.slice A3 kl c3], rfl, by go_num, by omega, H4.out.1, ?_, ?_⟩
          · rw [HKK.out.2.1]
            rw [HKK.out.2.2] at hts4
            exact hts4
          · exact ((HI.out.2.2.trans (HB3.out.mono HI.out.2.2.size)).alloc (Nat.le_trans HI.out.2.2.size HB3.out.size) _).grown H4.out.2 (by have := HI.out.2.2.size; have := HB3.out.size; simp; omega) (fun r hr => (World.ownsRow.lt HI.out.1 r hr).1)
        case measure => simp [intOf]; omega
    · have hd1 : decide ((i : Int) < (q : Int)) = false := decide_eq_false (by omega)
      have hie : i = ks.length := by have := HN.out.2.2.2; omega
      have HE : Hid (PartsPost w (ks.map Tr.flat) (.returned (.tuple #[.slice A1 i c1, .int .i64 0])) wr) := by
        have hts := HI.out.2.1
        rw [List.take_of_length_le (by omega)] at hts
        refine ⟨A1, c1, vs, by rw [List.length_map, hie], ?_, hts.mono HK.out.2.size, HK.out.2.trans (HI.out.2.2.mono HK.out.2.size)⟩
        rw [List.length_map, ← hie]
        exact own_at HI.out.1 (fun g hg => Nat.le_trans HK.out.2.size (World.ownsRow.lt HI.out.1 g hg).1)
      clear hie
      go_wp2_with fail
      go_ret2
      exact HE.out
end Go.Proofs.Ytpdofcjgpomehaa
