/- Contract of token.text. -/
import Derived.Test.YtlfkiaphmifelaaDoorIdx
import Derived.Test.YtlfkiaphmifelaaDoorTxs
namespace Go.Proofs.YtlfkiaphmifelaaDoor
open Go.RowKit

theorem Tryd.info5 : (Tryd.prog.info? 5).map (fun i => (i.zero, i.size, i.bytes)) = some (some (.int .u8 0), 1, 1) := by kernel_rfl
abbrev hexs : List UInt8 := [48, 49, 50, 51, 52, 53, 54, 55, 56, 57, 97, 98, 99, 100, 101, 102]
theorem hex_idx0 : ∀ n : Fin 256, Lib.indexByte hexs (UInt8.ofNat n.1) = ((hexD (UInt8.ofNat n.1)).elim (-1) fun d => (d : Int)) := by decide +kernel
theorem hex_idx (c : UInt8) : Lib.indexByte hexs c = ((hexD c).elim (-1) fun d => (d : Int)) := by
  have h := hex_idx0 ⟨c.toNat, UInt8.toNat_lt c⟩
  have e : UInt8.ofNat c.toNat = c := UInt8.ofNat_toNat
  rw [e] at h
  exact h
theorem hex_any (c : UInt8) (w : World) : Calls Tryd.prog 26 #[.string ⟨hexs.toArray⟩, .int .u8 (c.toNat : Nat)] w fun e w' => e = .returned (.int .i64 ((hexD c).elim (-1) fun d => (d : Int))) ∧ w' = w := by
  have h := idx19 ⟨hexs.toArray⟩ (c.toNat : Nat) w
  have e : ((c.toNat : Nat) : Int).toNat.toUInt8 = c := by rw [Int.toNat_natCast]; exact UInt8.ofNat_toNat
  have e2 : (⟨hexs.toArray⟩ : ByteArray).data.toList = hexs := rfl
  rw [e, e2, hex_idx] at h
  exact h

def TextPost (w : World) (R : List UInt8 × Nat × Nat × Nat) (e : Ending) (w' : World) : Prop :=
  ∃ st : ByteArray, e = .returned (.tuple #[.string st, .int .i64 (R.2.1 : Nat), .int .i64 (R.2.2.1 : Nat), .int .i64 (R.2.2.2 : Nat)]) ∧ st.data.toList = R.1 ∧ Below w.heap.size w w'

set_option maxRecDepth 100000 in
set_option maxHeartbeats 8000000 in
theorem text_any (s : List UInt8) (i : Nat) (hs : s.length ≤ 100000) (hi : i < s.length) (w : World) :
    Calls Tryd.prog 25 #[.string ⟨s.toArray⟩, .int .i64 (i : Nat)] w (TextPost w (textL s i (i + 1) [])) := by
  obtain ⟨i0, hi0, hz0, hz1, hz2⟩ := info_parts Tryd.info5
  have HI := Lib.hid (And.intro hi0 (And.intro hz0 (And.intro hz1 hz2)))
  clear hi0 hz0 hz1 hz2
  obtain ⟨st, hst⟩ : ∃ st : ByteArray, st = ⟨s.toArray⟩ := ⟨_, rfl⟩
  have hsz : st.size = s.length := by rw [hst]; rfl
  obtain ⟨n, hn⟩ : ∃ n, n = s.length := ⟨_, rfl⟩
  obtain ⟨R, hR⟩ : ∃ R, R = textL s i (i + 1) [] := ⟨_, rfl⟩
  rw [← hst, ← hR]
  rw [← hn] at hsz hs hi
  have HST := Lib.hid hst
  have HN := Lib.hid hn
  have HR0 := Lib.hid hR
  clear hst hn hR
  go_enter Tryd.func25, Tryd.ntmps25
  go_wp2_with fail
  go_loopw [8, 9] (fun s8 s9 wr => ∃ (k : Nat) (b : List UInt8) (A : Option Addr) (cap : Nat), s9 = .int .i64 k ∧ s8 = .slice A b.length cap ∧ i < k ∧ k ≤ n ∧ b.length ≤ 4095 ∧ textL s i k b = R ∧ wr.ownsRow w.heap.size 5 1 (.slice A b.length cap) b.length (bcells b) ∧ Below w.heap.size w wr) (fun _ s9 _ => n - (intOf s9).toNat)
  case atStart => exact ⟨i + 1, [], none, 0, by go_num, rfl, by omega, by omega, by simp, HR0.out.symm, World.ownsRow_nil _ _ _ _, Below.refl _ _⟩
  case round =>
    obtain ⟨k, b, A, cap, rfl, rfl, hik, hkn, hbl, hR, ho, hb⟩ := hrel
    have HR := Lib.hid hR
    have HB := Lib.hid hb
    obtain ⟨m, hm⟩ : ∃ m, m = b.length := ⟨_, rfl⟩
    rw [← hm] at ho hbl ⊢
    have HO := Lib.hid ho
    have HM := Lib.hid hm
    have HSTEP := Lib.hid (hR.symm.trans (textL_step s i k b))
    clear hR hb ho hm
    by_cases hlt : k < n
    · have hks : k < s.length := by rw [← HN.out]; exact hlt
      obtain ⟨ch, hch⟩ : ∃ c, c = s[k] := ⟨_, rfl⟩
      have hkst : k < st.size := by omega
      have hg : st[k] = ch := by rw [hch]; exact st_get HST.out hkst hks
      have hch2 : s[k]? = some ch := by rw [hch]; exact List.getElem?_eq_getElem hks
      have HS1 := Lib.hid (show R = if ch = 34 then (b, k + 1, 0, 0) else if ch.toNat < 32 ∨ 126 < ch.toNat then ([], 0, k, 9) else
          match charL s ch k with
          | .inl (q, e) => ([], 0, q, e)
          | .inr (x, nx) => if b.length = 4095 then ([], 0, i, 2) else textL s i nx (b ++ [UInt8.ofNat x]) by have h := HSTEP.out; rw [hch2] at h; exact h)
      clear hch hch2 hks HSTEP
      have hcl : ch.toNat < 256 := UInt8.toNat_lt _
      have HE : Hid (∀ q : UInt8, ch = q ↔ ch.toNat = q.toNat) := fun q => ⟨fun h => by rw [h], fun h => UInt8.toNat_inj.1 h⟩
      obtain ⟨cv, hcv⟩ : ∃ v, v = ch.toNat := ⟨_, rfl⟩
      have hg2 : st[k].toNat = cv := by rw [hg, hcv]
      have HCV := Lib.hid hcv
      rw [← hcv] at hcl
      clear hg hcv
      by_cases h34 : cv = 34
      · have HR2 : Hid (R = (b, k + 1, 0, 0)) := by rw [HS1.out, if_pos ((HE.out 34).2 (HCV.out.symm.trans h34))]; exact rfl
        have hstr := run_str_own (P := Tryd.prog) wr 35 9 5 w.heap.size (.slice A m cap) m b Tryd.underlying35 Tryd.underlying5 Tryd.underlying9 HM.out.symm HO.out
        have hb34 : ((cv : Int) != 34) = false := by rw [h34]; rfl
        clear h34
        go_wp2_with fail
        (try simp only [Exit.inBlock, Exit.then]); refine bodyPost_ret (results_tmp4 rfl _ _ _) rfl ?_
        exact ⟨_, by rw [HR2.out]; rfl, by rw [HR2.out], HB.out⟩
      · have hb34 : ((cv : Int) != 34) = true := by rw [bne_iff_ne]; omega
        have HS2 : Hid (R = if ch.toNat < 32 ∨ 126 < ch.toNat then ([], 0, k, 9) else
          match charL s ch k with
          | .inl (q, e) => ([], 0, q, e)
          | .inr (x, nx) => if b.length = 4095 then ([], 0, i, 2) else textL s i nx (b ++ [UInt8.ofNat x])) := by rw [HS1.out, if_neg (fun h => h34 (HCV.out.trans ((HE.out 34).1 h)))]; exact rfl
        clear h34 HS1
        by_cases hlo : cv < 32
        · have HR2 : Hid (R = ([], 0, k, 9)) := by rw [HS2.out, if_pos (by rw [← HCV.out]; omega)]; exact rfl
          go_wp2_with fail
          (try simp only [Exit.inBlock, Exit.then]); refine bodyPost_ret (results_tmp4 rfl _ _ _) rfl ?_
          exact ⟨_, by rw [HR2.out]; rfl, by rw [HR2.out], HB.out⟩
        · by_cases hup : 126 < cv
          · have HR2 : Hid (R = ([], 0, k, 9)) := by rw [HS2.out, if_pos (by rw [← HCV.out]; omega)]; exact rfl
            go_wp2_with fail
            (try simp only [Exit.inBlock, Exit.then]); refine bodyPost_ret (results_tmp4 rfl _ _ _) rfl ?_
            exact ⟨_, by rw [HR2.out]; rfl, by rw [HR2.out], HB.out⟩
          · have HS3 : Hid (R = match charL s ch k with
              | .inl (q, e) => ([], 0, q, e)
              | .inr (x, nx) => if b.length = 4095 then ([], 0, i, 2) else textL s i nx (b ++ [UInt8.ofNat x])) := by rw [HS2.out, if_neg (by rw [← HCV.out]; omega)]; exact rfl
            clear HS2
            by_cases h92 : cv = 92
            · have hb92 : ((cv : Int) == 92) = true := by rw [h92]; rfl
              have HS4 : Hid (R = match escL s (k + 1) with
                | .inl (q, e) => ([], 0, q, e)
                | .inr (x, nx) => if b.length = 4095 then ([], 0, i, 2) else textL s i nx (b ++ [UInt8.ofNat x])) := by
                have h := HS3.out
                unfold charL at h
                rw [if_pos ((HE.out 92).2 (HCV.out.symm.trans h92))] at h
                exact h
              clear HS3 h92
              by_cases hk1 : k + 1 = n
              · have HR2 : Hid (R = ([], 0, n, 4)) := by
                  have h := HS4.out
                  unfold escL at h
                  rw [List.getElem?_eq_none (by rw [← HN.out]; omega)] at h
                  rw [h, HN.out]; exact rfl
                have hbk : ((k : Int) + 1 == (n : Int)) = true := by rw [beq_iff_eq]; omega
                have hge : n ≤ k + 1 := by omega
                clear hk1
                go_wp2_with fail
                (try simp only [Exit.inBlock, Exit.then]); refine bodyPost_ret (results_tmp4 rfl _ _ _) rfl ?_
                exact ⟨_, by rw [HR2.out]; rfl, by rw [HR2.out], HB.out⟩
              · have hk2 : k + 1 < n := by omega
                have hbk : ((k : Int) + 1 == (n : Int)) = false := by rw [beq_eq_false_iff_ne]; omega
                clear hk1
                have hks : k + 1 < s.length := by rw [← HN.out]; exact hk2
                obtain ⟨c1, hc1⟩ : ∃ c, c = s[k + 1] := ⟨_, rfl⟩
                have hkst1 : k + 1 < st.size := by omega
                have hg1 : st[k + 1] = c1 := by rw [hc1]; exact st_get HST.out hkst1 hks
                have HC1 : Hid (s[k + 1]? = some c1) := by rw [hc1]; exact List.getElem?_eq_getElem hks
                have HS5 : Hid (R = match (if c1 = 34 ∨ c1 = 92 then Sum.inr (c1.toNat, k + 1 + 1) else if c1 = 110 then .inr (10, k + 1 + 1) else if c1 = 120 then hex2 s (k + 1 + 1) else .inl (k + 1, 9) : (Nat × Nat) ⊕ (Nat × Nat)) with
                  | .inl (q, e) => ([], 0, q, e)
                  | .inr (x, nx) => if b.length = 4095 then ([], 0, i, 2) else textL s i nx (b ++ [UInt8.ofNat x])) := by
                  have h := HS4.out
                  unfold escL at h
                  rw [HC1.out] at h
                  exact h
                clear HS4
                have HE1 : Hid (∀ q : UInt8, c1 = q ↔ c1.toNat = q.toNat) := fun q => ⟨fun h => by rw [h], fun h => UInt8.toNat_inj.1 h⟩
                have hcl1 : c1.toNat < 256 := UInt8.toNat_lt _
                obtain ⟨cw, hcw⟩ : ∃ v, v = c1.toNat := ⟨_, rfl⟩
                have hgw : st[k + 1].toNat = cw := by rw [hg1, hcw]
                have HCW := Lib.hid hcw
                rw [← hcw] at hcl1
                clear hg1 hcw hc1 hks
                by_cases h1 : cw = 34
                · have hb1 : ((cw : Int) == 34) = true := by rw [h1]; rfl
                  have HS4 : Hid (R = if b.length = 4095 then ([], 0, i, 2) else textL s i (k + 1 + 1) (b ++ [UInt8.ofNat cw])) := by
                    have h := HS5.out
                    rw [if_pos (.inl ((HE1.out 34).2 (HCW.out.symm.trans h1))), ← HCW.out] at h
                    exact h
                  clear HS5 h1
                  by_cases hmx : m = 4095
                  · have HR2 : Hid (R = ([], 0, i, 2)) := by rw [HS4.out, if_pos (HM.out.symm.trans hmx)]; exact rfl
                    have hbm : ((m : Int) == 4095) = true := by rw [hmx]; rfl
                    clear hmx
                    go_wp2_with fail
                    (try simp only [Exit.inBlock, Exit.then]); refine bodyPost_ret (results_tmp4 rfl _ _ _) rfl ?_
                    exact ⟨_, by rw [HR2.out]; rfl, by rw [HR2.out], HB.out⟩
                  · have HR2 : Hid (R = textL s i (k + 1 + 1) (b ++ [UInt8.ofNat cw])) := by rw [HS4.out, if_neg (fun h => hmx (HM.out.trans h))]; exact rfl
                    have hbm : ((m : Int) == 4095) = false := by rw [beq_eq_false_iff_ne]; omega
                    have HX2 : Hid (bcells (b ++ [UInt8.ofNat cw]) = bcells b ++ [.int .u8 (cw : Nat)]) := by rw [bcells_append]; exact congrArg (fun z => bcells b ++ [Value.int .u8 ((z : Nat) : Int)]) (by first | rfl | (rw [UInt8.toNat_ofNat']; exact Nat.mod_eq_of_lt (by omega)))
                    obtain ⟨hi0, hz0, hz1, hz2⟩ := HI.out
                    go_wp2_with (at_builtin; refine wpList_append_own _ rfl (.tmp 86) (.tmp 88) 35 rfl w.heap.size 5 i0 (.int .u8 0) 1 1 Tryd.underlying35 hi0 hz0 hz1 hz2 rfl (by decide) (.slice A m cap) m (bcells b) rfl (HO.out.alloc _) ⟨wr.heap.size, 0, none⟩ 1 1 [.int .u8 (cw : Nat)] rfl rfl (cell_one_new _ _ _) (by intro u hu; rw [List.mem_singleton] at hu; subst hu; rfl) (by unfold maxLen; omega) (by omega) (by have := HB.out.size; simp; omega) ?_; intro v3 w3 ho3 hg3 _; obtain ⟨A3, c3, rfl, _⟩ := own_form ho3; have HO3 := Lib.hid ho3; have HG3 := Lib.hid hg3; clear ho3 hg3)
                    have HL := Lib.hid (show (b ++ [UInt8.ofNat cw]).length = m + 1 by rw [List.length_append, ← HM.out]; rfl)
                    go_wp2_with fail
                    go_roundw
                    case rel =>
                      refine ⟨(k + 1 + 1), b ++ [UInt8.ofNat cw], A3, c3, by go_num, by rw [HL.out], by omega, by omega, by rw [HL.out]; omega, HR2.out.symm, by rw [HL.out, HX2.out]; exact HO3.out, ?_⟩
                      exact (HB.out.alloc HB.out.size _).grown HG3.out (by have := HB.out.size; simp; omega) (fun g hg => (World.ownsRow.lt HO.out g hg).1)
                    case measure => simp [intOf]; omega
                · have hb1 : ((cw : Int) == 34) = false := by rw [beq_eq_false_iff_ne]; omega
                  by_cases h2 : cw = 92
                  · have hb2 : ((cw : Int) == 92) = true := by rw [h2]; rfl
                    have HS4 : Hid (R = if b.length = 4095 then ([], 0, i, 2) else textL s i (k + 1 + 1) (b ++ [UInt8.ofNat cw])) := by
                      have h := HS5.out
                      rw [if_pos (.inr ((HE1.out 92).2 (HCW.out.symm.trans h2))), ← HCW.out] at h
                      exact h
                    clear HS5 h1 h2
                    by_cases hmx : m = 4095
                    · have HR2 : Hid (R = ([], 0, i, 2)) := by rw [HS4.out, if_pos (HM.out.symm.trans hmx)]; exact rfl
                      have hbm : ((m : Int) == 4095) = true := by rw [hmx]; rfl
                      clear hmx
                      go_wp2_with fail
                      (try simp only [Exit.inBlock, Exit.then]); refine bodyPost_ret (results_tmp4 rfl _ _ _) rfl ?_
                      exact ⟨_, by rw [HR2.out]; rfl, by rw [HR2.out], HB.out⟩
                    · have HR2 : Hid (R = textL s i (k + 1 + 1) (b ++ [UInt8.ofNat cw])) := by rw [HS4.out, if_neg (fun h => hmx (HM.out.trans h))]; exact rfl
                      have hbm : ((m : Int) == 4095) = false := by rw [beq_eq_false_iff_ne]; omega
                      have HX2 : Hid (bcells (b ++ [UInt8.ofNat cw]) = bcells b ++ [.int .u8 (cw : Nat)]) := by rw [bcells_append]; exact congrArg (fun z => bcells b ++ [Value.int .u8 ((z : Nat) : Int)]) (by first | rfl | (rw [UInt8.toNat_ofNat']; exact Nat.mod_eq_of_lt (by omega)))
                      obtain ⟨hi0, hz0, hz1, hz2⟩ := HI.out
                      go_wp2_with (at_builtin; refine wpList_append_own _ rfl (.tmp 86) (.tmp 88) 35 rfl w.heap.size 5 i0 (.int .u8 0) 1 1 Tryd.underlying35 hi0 hz0 hz1 hz2 rfl (by decide) (.slice A m cap) m (bcells b) rfl (HO.out.alloc _) ⟨wr.heap.size, 0, none⟩ 1 1 [.int .u8 (cw : Nat)] rfl rfl (cell_one_new _ _ _) (by intro u hu; rw [List.mem_singleton] at hu; subst hu; rfl) (by unfold maxLen; omega) (by omega) (by have := HB.out.size; simp; omega) ?_; intro v3 w3 ho3 hg3 _; obtain ⟨A3, c3, rfl, _⟩ := own_form ho3; have HO3 := Lib.hid ho3; have HG3 := Lib.hid hg3; clear ho3 hg3)
                      have HL := Lib.hid (show (b ++ [UInt8.ofNat cw]).length = m + 1 by rw [List.length_append, ← HM.out]; rfl)
                      go_wp2_with fail
                      go_roundw
                      case rel =>
                        refine ⟨(k + 1 + 1), b ++ [UInt8.ofNat cw], A3, c3, by go_num, by rw [HL.out], by omega, by omega, by rw [HL.out]; omega, HR2.out.symm, by rw [HL.out, HX2.out]; exact HO3.out, ?_⟩
                        exact (HB.out.alloc HB.out.size _).grown HG3.out (by have := HB.out.size; simp; omega) (fun g hg => (World.ownsRow.lt HO.out g hg).1)
                      case measure => simp [intOf]; omega
                  · have hb2 : ((cw : Int) == 92) = false := by rw [beq_eq_false_iff_ne]; omega
                    have HS6 : Hid (R = match (if c1 = 110 then Sum.inr (10, k + 1 + 1) else if c1 = 120 then hex2 s (k + 1 + 1) else .inl (k + 1, 9) : (Nat × Nat) ⊕ (Nat × Nat)) with
                      | .inl (q, e) => ([], 0, q, e)
                      | .inr (x, nx) => if b.length = 4095 then ([], 0, i, 2) else textL s i nx (b ++ [UInt8.ofNat x])) := by
                      have h := HS5.out
                      rw [if_neg (fun h => h.elim (fun h => h1 (HCW.out.trans ((HE1.out 34).1 h))) (fun h => h2 (HCW.out.trans ((HE1.out 92).1 h))))] at h
                      exact h
                    clear HS5 h1 h2
                    by_cases h3 : cw = 110
                    · have hb3 : ((cw : Int) == 110) = true := by rw [h3]; rfl
                      have HS4 : Hid (R = if b.length = 4095 then ([], 0, i, 2) else textL s i (k + 1 + 1) (b ++ [UInt8.ofNat 10])) := by
                        have h := HS6.out
                        rw [if_pos ((HE1.out 110).2 (HCW.out.symm.trans h3))] at h
                        exact h
                      clear HS6 h3
                      by_cases hmx : m = 4095
                      · have HR2 : Hid (R = ([], 0, i, 2)) := by rw [HS4.out, if_pos (HM.out.symm.trans hmx)]; exact rfl
                        have hbm : ((m : Int) == 4095) = true := by rw [hmx]; rfl
                        clear hmx
                        go_wp2_with fail
                        (try simp only [Exit.inBlock, Exit.then]); refine bodyPost_ret (results_tmp4 rfl _ _ _) rfl ?_
                        exact ⟨_, by rw [HR2.out]; rfl, by rw [HR2.out], HB.out⟩
                      · have HR2 : Hid (R = textL s i (k + 1 + 1) (b ++ [UInt8.ofNat 10])) := by rw [HS4.out, if_neg (fun h => hmx (HM.out.trans h))]; exact rfl
                        have hbm : ((m : Int) == 4095) = false := by rw [beq_eq_false_iff_ne]; omega
                        have HX2 : Hid (bcells (b ++ [UInt8.ofNat 10]) = bcells b ++ [.int .u8 10]) := by rw [bcells_append]; exact congrArg (fun z => bcells b ++ [Value.int .u8 ((z : Nat) : Int)]) (by first | rfl | (rw [UInt8.toNat_ofNat']; exact Nat.mod_eq_of_lt (by omega)))
                        obtain ⟨hi0, hz0, hz1, hz2⟩ := HI.out
                        go_wp2_with (at_builtin; refine wpList_append_own _ rfl (.tmp 86) (.tmp 88) 35 rfl w.heap.size 5 i0 (.int .u8 0) 1 1 Tryd.underlying35 hi0 hz0 hz1 hz2 rfl (by decide) (.slice A m cap) m (bcells b) rfl (HO.out.alloc _) ⟨wr.heap.size, 0, none⟩ 1 1 [.int .u8 10] rfl rfl (cell_one_new _ _ _) (by intro u hu; rw [List.mem_singleton] at hu; subst hu; rfl) (by unfold maxLen; omega) (by omega) (by have := HB.out.size; simp; omega) ?_; intro v3 w3 ho3 hg3 _; obtain ⟨A3, c3, rfl, _⟩ := own_form ho3; have HO3 := Lib.hid ho3; have HG3 := Lib.hid hg3; clear ho3 hg3)
                        have HL := Lib.hid (show (b ++ [UInt8.ofNat 10]).length = m + 1 by rw [List.length_append, ← HM.out]; rfl)
                        go_wp2_with fail
                        go_roundw
                        case rel =>
                          refine ⟨(k + 1 + 1), b ++ [UInt8.ofNat 10], A3, c3, by go_num, by rw [HL.out], by omega, by omega, by rw [HL.out]; omega, HR2.out.symm, by rw [HL.out, HX2.out]; exact HO3.out, ?_⟩
                          exact (HB.out.alloc HB.out.size _).grown HG3.out (by have := HB.out.size; simp; omega) (fun g hg => (World.ownsRow.lt HO.out g hg).1)
                        case measure => simp [intOf]; omega
                    · have hb3 : ((cw : Int) == 110) = false := by rw [beq_eq_false_iff_ne]; omega
                      have HS7 : Hid (R = match (if c1 = 120 then hex2 s (k + 1 + 1) else .inl (k + 1, 9) : (Nat × Nat) ⊕ (Nat × Nat)) with
                        | .inl (q, e) => ([], 0, q, e)
                        | .inr (x, nx) => if b.length = 4095 then ([], 0, i, 2) else textL s i nx (b ++ [UInt8.ofNat x])) := by
                        have h := HS6.out
                        rw [if_neg (fun h => h3 (HCW.out.trans ((HE1.out 110).1 h)))] at h
                        exact h
                      clear HS6 h3
                      by_cases h4 : cw = 120
                      · have hb4 : ((cw : Int) == 120) = true := by rw [h4]; rfl
                        have HS8 : Hid (R = match hex2 s (k + 2) with
                          | .inl (q, e) => ([], 0, q, e)
                          | .inr (x, nx) => if b.length = 4095 then ([], 0, i, 2) else textL s i nx (b ++ [UInt8.ofNat x])) := by
                          have h := HS7.out
                          rw [if_pos ((HE1.out 120).2 (HCW.out.symm.trans h4))] at h
                          exact h
                        clear HS7 h4
                        go_wp2_with fail
                        obtain ⟨wo, rfl⟩ : ∃ wo : World, wo = wr := ⟨_, rfl⟩
                        go_loopw [9, 11, 57] (fun s9 s11 s57 wr => wr = wo ∧ ∃ j x : Nat, s57 = .int .i64 j ∧ s9 = .int .i64 ((k + 1 + j : Nat) : Int) ∧ s11 = .int .i64 x ∧ x < 256 ∧ ((j = 0 ∧ x = 0) ∨ (j = 1 ∧ x < 16 ∧ k + 2 < n ∧ ∃ a : UInt8, s[k + 2]? = some a ∧ hexD a = some x) ∨ (j = 2 ∧ k + 3 < n ∧ hex2 s (k + 2) = .inr (x, k + 4)))) (fun _ _ s57 _ => 2 - (intOf s57).toNat)
                        case atStart => exact ⟨rfl, 0, 0, rfl, by first | rfl | (congr 1), rfl, by omega, .inl ⟨rfl, rfl⟩⟩
                        case round =>
                          obtain ⟨rfl, j, x, rfl, rfl, rfl, hx, hj⟩ := hrel
                          rcases hj with ⟨rfl, rfl⟩ | ⟨rfl, hx16, hk2n, a, ha, hax⟩ | ⟨rfl, hk3, hh⟩
                          · by_cases hke : k + 2 = n
                            · have HR2 : Hid (R = ([], 0, k + 1 + 1, 4)) := by
                                have h := HS8.out
                                unfold hex2 at h
                                rw [List.getElem?_eq_none (by rw [← HN.out]; omega)] at h
                                rw [h, show s.length = k + 1 + 1 by rw [← HN.out]; omega]; exact rfl
                              have hkz : n ≤ k + 2 := by omega
                              have hkz2 : k + 2 ≤ n := by omega
                              clear hke
                              go_wp2_with fail
                              (try simp only [Exit.inBlock, Exit.then]); refine bodyPost_ret (results_tmp4 rfl _ _ _) rfl ?_
                              exact ⟨_, by rw [HR2.out]; rfl, by rw [HR2.out], HB.out⟩
                            · have hkl : k + 2 < n := by omega
                              clear hke
                              have hks : k + 2 < s.length := by rw [← HN.out]; exact hkl
                              obtain ⟨d1, hd1⟩ : ∃ c, c = s[k + 2] := ⟨_, rfl⟩
                              have hkst2 : k + 2 < st.size := by omega
                              have hgd : st[k + 2] = d1 := by rw [hd1]; exact st_get HST.out hkst2 hks
                              have HD1 : Hid (s[k + 2]? = some d1) := by rw [hd1]; exact List.getElem?_eq_getElem hks
                              clear hd1 hks
                              go_wp2_with fail
                              refine (hex_any d1 _).mono ?_
                              rintro e w2 ⟨rfl, hw2⟩
                              rw [hw2]
                              clear hw2 w2
                              cases hhd : hexD d1 with
                              | none =>
                                have HR2 : Hid (R = ([], 0, k + 2, 9)) := by
                                  have h := HS8.out
                                  unfold hex2 at h
                                  rw [HD1.out] at h
                                  simp only [hhd] at h
                                  exact h
                                clear hhd
                                simp only [Option.elim]
                                go_wp2_with fail
                                (try simp only [Exit.inBlock, Exit.then]); refine bodyPost_ret (results_tmp4 rfl _ _ _) rfl ?_
                                exact ⟨_, by rw [HR2.out]; rfl, by rw [HR2.out], HB.out⟩
                              | some d =>
                                have hd16 := hexD_lt hhd
                                have HHD := Lib.hid hhd
                                clear hhd
                                simp only [Option.elim]
                                go_wp2_with fail
                                go_roundw
                                case rel => exact ⟨trivial, 1, d, by go_num, congrArg (Value.int .i64) (by omega), congrArg (Value.int .i64) (by omega), by omega, .inr (.inl ⟨rfl, hd16, hkl, d1, HD1.out, HHD.out⟩)⟩
                                case measure => simp [intOf]
                          · have HA := Lib.hid (And.intro ha hax)
                            clear ha hax
                            by_cases hke : k + 3 = n
                            · have HR2 : Hid (R = ([], 0, k + 1 + 1 + 1, 4)) := by
                                have h := HS8.out
                                unfold hex2 at h
                                rw [HA.out.1] at h
                                simp only [HA.out.2] at h
                                rw [List.getElem?_eq_none (by rw [← HN.out]; omega)] at h
                                rw [h, show s.length = k + 1 + 1 + 1 by rw [← HN.out]; omega]; exact rfl
                              have hkz : n ≤ k + 3 := by omega
                              have hkz2 : k + 3 ≤ n := by omega
                              clear hke
                              go_wp2_with fail
                              (try simp only [Exit.inBlock, Exit.then]); refine bodyPost_ret (results_tmp4 rfl _ _ _) rfl ?_
                              exact ⟨_, by rw [HR2.out]; rfl, by rw [HR2.out], HB.out⟩
                            · have hkl : k + 3 < n := by omega
                              clear hke
                              have hks : k + 3 < s.length := by rw [← HN.out]; exact hkl
                              obtain ⟨d1, hd1⟩ : ∃ c, c = s[k + 3] := ⟨_, rfl⟩
                              have hkst2 : k + 3 < st.size := by omega
                              have hgd : st[k + 3] = d1 := by rw [hd1]; exact st_get HST.out hkst2 hks
                              have HD1 : Hid (s[k + 3]? = some d1) := by rw [hd1]; exact List.getElem?_eq_getElem hks
                              clear hd1 hks
                              go_wp2_with fail
                              refine (hex_any d1 _).mono ?_
                              rintro e w2 ⟨rfl, hw2⟩
                              rw [hw2]
                              clear hw2 w2
                              cases hhd : hexD d1 with
                              | none =>
                                have HR2 : Hid (R = ([], 0, k + 3, 9)) := by
                                  have h := HS8.out
                                  unfold hex2 at h
                                  rw [HA.out.1] at h
                                  simp only [HA.out.2] at h
                                  rw [HD1.out] at h
                                  simp only [hhd] at h
                                  exact h
                                clear hhd
                                simp only [Option.elim]
                                go_wp2_with fail
                                (try simp only [Exit.inBlock, Exit.then]); refine bodyPost_ret (results_tmp4 rfl _ _ _) rfl ?_
                                exact ⟨_, by rw [HR2.out]; rfl, by rw [HR2.out], HB.out⟩
                              | some d =>
                                have hd16 := hexD_lt hhd
                                have HHD := Lib.hid hhd
                                clear hhd
                                simp only [Option.elim]
                                go_wp2_with fail
                                go_roundw
                                case rel =>
                                  refine ⟨trivial, 2, 16 * x + d, by go_num, congrArg (Value.int .i64) (by omega), congrArg (Value.int .i64) (by omega), by omega, .inr (.inr ⟨rfl, hkl, ?_⟩)⟩
                                  unfold hex2
                                  rw [HA.out.1]
                                  simp only [HA.out.2]
                                  rw [HD1.out]
                                  simp only [HHD.out]
                                case measure => simp [intOf]
                          · have HS4 : Hid (R = if b.length = 4095 then ([], 0, i, 2) else textL s i (k + 4) (b ++ [UInt8.ofNat x])) := by
                              have h := HS8.out
                              rw [hh] at h
                              exact h
                            clear HS8 hh
                            by_cases hmx : m = 4095
                            · have HR2 : Hid (R = ([], 0, i, 2)) := by rw [HS4.out, if_pos (HM.out.symm.trans hmx)]; exact rfl
                              have hbm : ((m : Int) == 4095) = true := by rw [hmx]; rfl
                              clear hmx
                              go_wp2_with fail
                              (try simp only [Exit.inBlock, Exit.then]); refine bodyPost_ret (results_tmp4 rfl _ _ _) rfl ?_
                              exact ⟨_, by rw [HR2.out]; rfl, by rw [HR2.out], HB.out⟩
                            · have HR2 : Hid (R = textL s i (k + 4) (b ++ [UInt8.ofNat x])) := by rw [HS4.out, if_neg (fun h => hmx (HM.out.trans h))]; exact rfl
                              have hbm : ((m : Int) == 4095) = false := by rw [beq_eq_false_iff_ne]; omega
                              have HX2 : Hid (bcells (b ++ [UInt8.ofNat x]) = bcells b ++ [.int .u8 (x : Nat)]) := by rw [bcells_append]; exact congrArg (fun z => bcells b ++ [Value.int .u8 ((z : Nat) : Int)]) (by first | rfl | (rw [UInt8.toNat_ofNat']; exact Nat.mod_eq_of_lt (by omega)))
                              obtain ⟨hi0, hz0, hz1, hz2⟩ := HI.out
                              go_wp2_with (at_builtin; refine wpList_append_own _ rfl (.tmp 86) (.tmp 88) 35 rfl w.heap.size 5 i0 (.int .u8 0) 1 1 Tryd.underlying35 hi0 hz0 hz1 hz2 rfl (by decide) (.slice A m cap) m (bcells b) rfl (HO.out.alloc _) ⟨wr.heap.size, 0, none⟩ 1 1 [.int .u8 (x : Nat)] rfl rfl (cell_one_new _ _ _) (by intro u hu; rw [List.mem_singleton] at hu; subst hu; rfl) (by unfold maxLen; omega) (by omega) (by have := HB.out.size; simp; omega) ?_; intro v3 w3 ho3 hg3 _; obtain ⟨A3, c3, rfl, _⟩ := own_form ho3; have HO3 := Lib.hid ho3; have HG3 := Lib.hid hg3; clear ho3 hg3)
                              have HL := Lib.hid (show (b ++ [UInt8.ofNat x]).length = m + 1 by rw [List.length_append, ← HM.out]; rfl)
                              go_wp2_with fail
                              go_roundw
                              case rel =>
                                refine ⟨(k + 4), b ++ [UInt8.ofNat x], A3, c3, by go_num, by rw [HL.out], by omega, by omega, by rw [HL.out]; omega, HR2.out.symm, by rw [HL.out, HX2.out]; exact HO3.out, ?_⟩
                                exact (HB.out.alloc HB.out.size _).grown HG3.out (by have := HB.out.size; simp; omega) (fun g hg => (World.ownsRow.lt HO.out g hg).1)
                              case measure => simp [intOf]; omega
                      · have hb4 : ((cw : Int) == 120) = false := by rw [beq_eq_false_iff_ne]; omega
                        have HR2 : Hid (R = ([], 0, k + 1, 9)) := by
                          have h := HS7.out
                          rw [if_neg (fun h => h4 (HCW.out.trans ((HE1.out 120).1 h)))] at h
                          exact h
                        clear HS7 h4
                        go_wp2_with fail
                        (try simp only [Exit.inBlock, Exit.then]); refine bodyPost_ret (results_tmp4 rfl _ _ _) rfl ?_
                        exact ⟨_, by rw [HR2.out]; rfl, by rw [HR2.out], HB.out⟩
            · have hb92 : ((cv : Int) == 92) = false := by rw [beq_eq_false_iff_ne]; omega
              have HS4 : Hid (R = if b.length = 4095 then ([], 0, i, 2) else textL s i (k + 1) (b ++ [UInt8.ofNat cv])) := by
                have h := HS3.out
                unfold charL at h
                rw [if_neg (fun h => h92 (HCV.out.trans ((HE.out 92).1 h))), ← HCV.out] at h
                exact h
              clear HS3 h92
              by_cases hmx : m = 4095
              · have HR2 : Hid (R = ([], 0, i, 2)) := by rw [HS4.out, if_pos (HM.out.symm.trans hmx)]; exact rfl
                have hbm : ((m : Int) == 4095) = true := by rw [hmx]; rfl
                clear hmx
                go_wp2_with fail
                (try simp only [Exit.inBlock, Exit.then]); refine bodyPost_ret (results_tmp4 rfl _ _ _) rfl ?_
                exact ⟨_, by rw [HR2.out]; rfl, by rw [HR2.out], HB.out⟩
              · have HR2 : Hid (R = textL s i (k + 1) (b ++ [UInt8.ofNat cv])) := by rw [HS4.out, if_neg (fun h => hmx (HM.out.trans h))]; exact rfl
                have hbm : ((m : Int) == 4095) = false := by rw [beq_eq_false_iff_ne]; omega
                have HX2 : Hid (bcells (b ++ [UInt8.ofNat cv]) = bcells b ++ [.int .u8 (cv : Nat)]) := by rw [bcells_append]; exact congrArg (fun z => bcells b ++ [Value.int .u8 ((z : Nat) : Int)]) (by first | rfl | (rw [UInt8.toNat_ofNat']; exact Nat.mod_eq_of_lt (by omega)))
                obtain ⟨hi0, hz0, hz1, hz2⟩ := HI.out
                go_wp2_with (at_builtin; refine wpList_append_own _ rfl (.tmp 86) (.tmp 88) 35 rfl w.heap.size 5 i0 (.int .u8 0) 1 1 Tryd.underlying35 hi0 hz0 hz1 hz2 rfl (by decide) (.slice A m cap) m (bcells b) rfl (HO.out.alloc _) ⟨wr.heap.size, 0, none⟩ 1 1 [.int .u8 (cv : Nat)] rfl rfl (cell_one_new _ _ _) (by intro u hu; rw [List.mem_singleton] at hu; subst hu; rfl) (by unfold maxLen; omega) (by omega) (by have := HB.out.size; simp; omega) ?_; intro v3 w3 ho3 hg3 _; obtain ⟨A3, c3, rfl, _⟩ := own_form ho3; have HO3 := Lib.hid ho3; have HG3 := Lib.hid hg3; clear ho3 hg3)
                have HL := Lib.hid (show (b ++ [UInt8.ofNat cv]).length = m + 1 by rw [List.length_append, ← HM.out]; rfl)
                go_wp2_with fail
                go_roundw
                case rel =>
                  refine ⟨(k + 1), b ++ [UInt8.ofNat cv], A3, c3, by go_num, by rw [HL.out], by omega, by omega, by rw [HL.out]; omega, HR2.out.symm, by rw [HL.out, HX2.out]; exact HO3.out, ?_⟩
                  exact (HB.out.alloc HB.out.size _).grown HG3.out (by have := HB.out.size; simp; omega) (fun g hg => (World.ownsRow.lt HO.out g hg).1)
                case measure => simp [intOf]; omega
    · have HR2 : Hid (R = ([], 0, n, 4)) := by
        have h := HSTEP.out
        rw [List.getElem?_eq_none (by rw [← HN.out]; omega)] at h
        rw [h, HN.out]; exact rfl
      go_wp2_with fail
      (try simp only [Exit.inBlock, Exit.then]); refine bodyPost_ret (results_tmp4 rfl _ _ _) rfl ?_
      exact ⟨_, by rw [HR2.out]; rfl, by rw [HR2.out], HB.out⟩
end Go.Proofs.YtlfkiaphmifelaaDoor
