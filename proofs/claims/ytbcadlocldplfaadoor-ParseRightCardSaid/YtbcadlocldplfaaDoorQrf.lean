/- Contract of token.All. And what follows from it. -/
import Derived.WalkMore
import Derived.ScopeJumps
import Derived.BigRegion
import Derived.OneCell
import Derived.Test.YtbcadlocldplfaaDoorQre
set_option linter.unusedSimpArgs false
set_option linter.unusedVariables false
namespace Go.Proofs.YtbcadlocldplfaaDoor
open Go.RowKit
set_option maxRecDepth 100000 in
set_option maxHeartbeats 16000000 in
theorem all_any (s : List UInt8) (hs : s.length ≤ 100000) (w : World) :
    Calls Tryd.prog 20 #[.string ⟨s.toArray⟩] w (AllPost w (srcL s)) := by
  obtain ⟨i0, hi0, hz0, hz1, hz2⟩ := info_parts Tryd.info44
  have HI := Lib.hid (And.intro hi0 (And.intro hz0 (And.intro hz1 hz2)))
  clear hi0 hz0 hz1 hz2
  obtain ⟨st, hst⟩ : ∃ st : ByteArray, st = ⟨s.toArray⟩ := ⟨_, rfl⟩
  have hsz : st.size = s.length := by rw [hst]; rfl
  obtain ⟨n, hn⟩ : ∃ n, n = s.length := ⟨_, rfl⟩
  obtain ⟨R, hR⟩ : ∃ R, R = srcL s := ⟨_, rfl⟩
  rw [← hst, ← hR]
  rw [← hn] at hsz hs
  have HST := Lib.hid hst
  have HN := Lib.hid hn
  have HR0 := Lib.hid hR
  clear hst hn hR
  go_enter Tryd.func20, Tryd.ntmps20
  go_wp2_with fail
  go_step3
  by_cases hlong : 16384 < n
  · have HR : Hid (R = ([], 0, 2)) := by rw [HR0.out]; unfold srcL; rw [if_pos (by rw [← HN.out]; exact hlong)]; exact rfl
    go_wp2_with fail
    rw [Exit.noGoto_ret]
    go_ret3
    exact ⟨none, 0, by rw [HR.out]; rfl, by rw [HR.out]; exact World.ownsRow_nil _ _ _ _, Below.refl _ _⟩
  · have HR1 : Hid (allL s 0 [] = R) := by rw [HR0.out]; unfold srcL; rw [if_neg (by rw [← HN.out]; exact hlong)]; exact rfl
    go_wp2_with fail
    go_step3
    go_wp2_with fail
    go_loopw [2, 5] (fun s2 s5 wr => ∃ (i : Nat) (l : List Tok) (A : Option Addr) (cap : Nat), s5 = .int .i64 i ∧ s2 = .slice A l.length cap ∧ i ≤ n ∧ l.length ≤ i ∧ allL s i l = R ∧ wr.ownsRow w.heap.size 35 4 (.slice A l.length cap) l.length (tcells l) ∧ Below w.heap.size w wr) (fun _ s5 _ => n - (intOf s5).toNat)
    case atStart => exact ⟨0, [], none, 0, rfl, rfl, by omega, by simp, HR1.out, World.ownsRow_nil _ _ _ _, Below.refl _ _⟩
    case round =>
      obtain ⟨i, l, A, cap, rfl, rfl, hin, hli, hR, ho, hb⟩ := hrel
      have HB := Lib.hid hb
      obtain ⟨m, hm⟩ : ∃ m, m = l.length := ⟨_, rfl⟩
      rw [← hm] at ho hli ⊢
      have HO := Lib.hid ho
      have HM := Lib.hid hm
      have HSTEP := Lib.hid hR
      clear hR hb ho hm
      by_cases hlt : i < n
      · have hks : i < s.length := by rw [← HN.out]; exact hlt
        obtain ⟨ch, hch⟩ : ∃ c, c = s[i] := ⟨_, rfl⟩
        have hist : i < st.size := by omega
        have hg : st[i] = ch := by rw [hch]; exact st_get HST.out hist hks
        have HCH : Hid (s[i]? = some ch) := by rw [hch]; exact List.getElem?_eq_getElem hks
        clear hch hks
        have HE : Hid (∀ q : UInt8, ch = q ↔ ch.toNat = q.toNat) := fun q => ⟨fun h => by rw [h], fun h => UInt8.toNat_inj.1 h⟩
        have hcl : ch.toNat < 256 := UInt8.toNat_lt _
        have HLE := Lib.hid (fun W => letter_any ch W)
        have HDI := Lib.hid (fun W => digit_any ch W)
        have HS1 := Lib.hid (fun W => sg1_any ch W)
        have HS2 := Lib.hid (fun W => sg2_any ch W)
        obtain ⟨cv, hcv⟩ : ∃ v, v = ch.toNat := ⟨_, rfl⟩
        have hg2 : st[i].toNat = cv := by rw [hg, hcv]
        have HCV := Lib.hid hcv
        rw [← hcv] at hcl HLE HDI HS1 HS2
        clear hg hcv
        obtain ⟨wo, rfl⟩ : ∃ wo : World, wo = wr := ⟨_, rfl⟩
        by_cases h32 : cv = 32
        · have hb32 : ((cv : Int) == 32) = true := by rw [h32]; rfl
          have HR2 : Hid (allL s (i + 1) l = R) := by rw [← HSTEP.out]; exact (all_blank HCH.out (.inl ((HE.out 32).2 (HCV.out.symm.trans h32))) l).symm
          clear h32
          go_wp2_with fail
          refine wp_scope_forward 1 rfl ?_
          go_wp2_with fail
          simp only [Exit.jump]
          go_wp2_with fail
          go_roundw
          case rel => exact ⟨i + 1, l, A, cap, by go_num, by rw [HM.out], by omega, by rw [← HM.out]; omega, HR2.out, by rw [← HM.out]; exact HO.out.alloc _, HB.out.alloc HB.out.size _⟩
          case measure => simp [intOf]; omega
        · have hb32 : ((cv : Int) == 32) = false := by rw [beq_eq_false_iff_ne]; omega
          have HN32 : Hid (ch ≠ 32) := fun h => h32 (HCV.out.trans ((HE.out 32).1 h))
          clear h32
          by_cases h10 : cv = 10
          · have hb10 : ((cv : Int) == 10) = true := by rw [h10]; rfl
            have HR2 : Hid (allL s (i + 1) l = R) := by rw [← HSTEP.out]; exact (all_blank HCH.out (.inr ((HE.out 10).2 (HCV.out.symm.trans h10))) l).symm
            clear h10
            go_wp2_with fail
            refine wp_scope_forward 1 rfl ?_
            go_wp2_with fail
            simp only [Exit.jump]
            go_wp2_with fail
            go_roundw
            case rel => exact ⟨i + 1, l, A, cap, by go_num, by rw [HM.out], by omega, by rw [← HM.out]; omega, HR2.out, by rw [← HM.out]; exact HO.out.alloc _, HB.out.alloc HB.out.size _⟩
            case measure => simp [intOf]; omega
          · have hb10 : ((cv : Int) == 10) = false := by rw [beq_eq_false_iff_ne]; omega
            have HN10 : Hid (ch ≠ 10) := fun h => h10 (HCV.out.trans ((HE.out 10).1 h))
            clear h10
            by_cases h35 : cv = 35
            · have hb35 : ((cv : Int) == 35) = true := by rw [h35]; rfl
              obtain ⟨E, hE⟩ : ∃ E, E = scan notNl s i := ⟨_, rfl⟩
              have hEn : E ≤ n := by rw [hE, HN.out]; exact scan_le _ _ (by rw [← HN.out]; exact hin)
              have hEi : i ≤ E := by rw [hE]; exact scan_ge _ _ _
              have HR2 : Hid (allL s E l = R) := by rw [← HSTEP.out, hE]; exact (all_remark HCH.out ((HE.out 35).2 (HCV.out.symm.trans h35)) l).symm
              have hEi1 : i + 1 ≤ E := by
                have hks : i < s.length := by rw [← HN.out]; exact hlt
                have hci : s[i] = ch := by have h := HCH.out; rw [List.getElem?_eq_getElem hks] at h; injection h
                rw [hE, scan_step notNl s hks (by rw [hci, (HE.out 35).2 (HCV.out.symm.trans h35)]; rfl)]; exact scan_ge _ _ _
              have HEE := Lib.hid hE
              clear hE h35
              go_wp2_with fail
              refine wp_scope_forward 1 rfl ?_
              go_wp2_with fail
              go_loopw [5] (fun s5 wr => wr = wo.alloc (.cells #[.int .u8 0, .string ⟨#[]⟩, .int .i64 0, .int .i64 (i : Nat)] 35) ∧ ∃ k : Nat, s5 = .int .i64 k ∧ i ≤ k ∧ k ≤ E ∧ scan notNl s k = E) (fun s5 _ => n - (intOf s5).toNat)
              case atStart => exact ⟨rfl, i, rfl, Nat.le_refl _, hEi, HEE.out.symm⟩
              case round =>
                obtain ⟨rfl, k, rfl, hik, hkE0, hsc⟩ := hrel
                have HX := Lib.hid hsc
                clear hsc
                by_cases hkn : k < n
                · have hks1 : k < s.length := by rw [← HN.out]; omega
                  obtain ⟨c1, hc1⟩ : ∃ c, c = s[k] := ⟨_, rfl⟩
                  have hist1 : k < st.size := by omega
                  have hg1 : st[k] = c1 := by rw [hc1]; exact st_get HST.out hist1 hks1
                  have HSP : Hid (notNl c1 = false → E = k) := fun hd => by rw [← HX.out]; exact scan_stop _ _ hks1 (by rw [← hc1]; exact hd)
                  have HST2 : Hid (notNl c1 = true → scan notNl s (k + 1) = E) := fun hd => by rw [← HX.out]; exact (scan_step _ _ hks1 (by rw [← hc1]; exact hd)).symm
                  clear hc1 hks1
                  have HE1 : Hid (c1 = 10 ↔ c1.toNat = 10) := ⟨fun h => by rw [h]; rfl, fun h => UInt8.toNat_inj.1 h⟩
                  have hcl1 : c1.toNat < 256 := UInt8.toNat_lt _
                  obtain ⟨dv, hdv⟩ : ∃ v, v = c1.toNat := ⟨_, rfl⟩
                  have hgd : st[k].toNat = dv := by rw [hg1, hdv]
                  rw [← hdv] at HE1 hcl1
                  clear hg1 hdv
                  by_cases hnl : dv = 10
                  · have hkE : E = k := HSP.out (by unfold notNl; rw [HE1.out.2 hnl]; rfl)
                    have hd4 : ((dv : Int) != 10) = false := by rw [hnl]; rfl
                    clear hnl
                    go_wp2_with fail
                    simp only [Exit.jump]
                    go_wp2_with fail
                    go_roundw
                    case rel => exact ⟨k, l, A, cap, rfl, by rw [HM.out], by omega, by rw [← HM.out]; omega, by rw [← hkE]; exact HR2.out, by rw [← HM.out]; exact HO.out.alloc _, HB.out.alloc HB.out.size _⟩
                    case measure => simp [intOf]; omega
                  · have HS := Lib.hid (HST2.out (by unfold notNl; simp only [ne_eq, decide_not, Bool.not_eq_true', decide_eq_false_iff_not]; exact fun h => hnl (HE1.out.1 h)))
                    have hkE3 : k + 1 ≤ E := by rw [← HS.out]; exact scan_ge _ _ _
                    have hd4 : ((dv : Int) != 10) = true := by rw [bne_iff_ne]; omega
                    clear hnl
                    go_wp2_with fail
                    go_roundw
                    case rel => exact ⟨trivial, k + 1, by go_num, by omega, hkE3, HS.out⟩
                    case measure => simp [intOf]; omega
                · have hkE : E = k := by omega
                  go_wp2_with fail
                  simp only [Exit.jump]
                  go_wp2_with fail
                  go_roundw
                  case rel => exact ⟨k, l, A, cap, rfl, by rw [HM.out], by omega, by rw [← HM.out]; omega, by rw [← hkE]; exact HR2.out, by rw [← HM.out]; exact HO.out.alloc _, HB.out.alloc HB.out.size _⟩
                  case measure => simp [intOf]; omega
            · have hb35 : ((cv : Int) == 35) = false := by rw [beq_eq_false_iff_ne]; omega
              have HN35 : Hid (ch ≠ 35) := fun h => h35 (HCV.out.trans ((HE.out 35).1 h))
              clear h35
              cases hle : lowB ch
              · have HLE2 := Lib.hid hle
                cases hdi : digB ch
                · have HDI2 := Lib.hid hdi
                  by_cases h34 : cv = 34
                  · have hb34 : ((cv : Int) == 34) = true := by rw [h34]; rfl
                    have H34 : Hid (ch = 34) := (HE.out 34).2 (HCV.out.symm.trans h34)
                    clear h34
                    rcases text_cases s i (by rw [← HN.out]; exact hs) (by rw [← HN.out]; exact hlt) with ⟨tb, te, tq, htt, htx⟩ | ⟨tb, te, tq, ter, hter, htt, htx⟩
                    · have HTX := Lib.hid htx
                      clear htx
                      have HR2 := Lib.hid ((all_tok HCH.out HN32.out HN10.out HN35.out (show oneL s i ch = .inr (⟨3, tb, 0, i⟩, te) by unfold oneL; rw [HLE2.out, HDI2.out]; simp only [Bool.false_eq_true, if_false]; rw [if_pos H34.out]; exact htt) l).symm.trans HSTEP.out)
                      have hnx := oneL_next HCH.out (show oneL s i ch = .inr (⟨3, tb, 0, i⟩, te) by unfold oneL; rw [HLE2.out, HDI2.out]; simp only [Bool.false_eq_true, if_false]; rw [if_pos H34.out]; exact htt)
                      rw [← HN.out] at hnx
                      obtain ⟨hnx1, hnx2⟩ := hnx
                      rw [← HST.out] at HTX
                      clear htt
                      go_wp2_with fail
                      refine wp_scope_forward 1 rfl ?_
                      go_wp2_with fail
                      refine (HLE.out _).mono ?_
                      rintro e w2 ⟨rfl, hw2⟩
                      rw [hw2, hle]
                      clear hw2 w2
                      go_wp2_with fail
                      refine (HDI.out _).mono ?_
                      rintro e w2 ⟨rfl, hw2⟩
                      rw [hw2, hdi]
                      clear hw2 w2
                      go_wp2_with fail
                      refine (HTX.out _).mono ?_
                      rintro e w2 ⟨rfl, hb2⟩
                      have HB2 := Lib.hid hb2
                      have HT : Hid (Blk w2 wo.heap.size 35 #[.int .u8 3, .string ⟨#[]⟩, .int .i64 0, .int .i64 (i : Nat)]) := Blk.below (Blk.new wo 35 _) hb2 (by simp)
                      have hz2 : wo.heap.size < w2.heap.size := HT.out.lt
                      have HBW := Lib.hid ((HB.out.alloc HB.out.size _).trans (hb2.mono (by have := HB.out.size; simp; omega)))
                      have HO2 := Lib.hid (own_below (HO.out.alloc _) hb2)
                      have HFAR : Hid ((Value.slice A m cap).ownBlock ≠ some wo.heap.size) := fun h => absurd (World.ownsRow.lt HO.out _ h).2 (Nat.lt_irrefl _)
                      clear hb2
                      have hcell : w2.cell? ⟨wo.heap.size, 1, none⟩ = some (.string ⟨#[]⟩) := HT.out.cell 1
                      have hfro : w2.frozen? ⟨wo.heap.size, 1, none⟩ = false := HT.out.frozen 1
                      have HT2 : Hid (Blk (w2.setCell ⟨wo.heap.size, 1, none⟩ (.string ⟨tb.toArray⟩)) wo.heap.size 35 #[.int .u8 3, .string ⟨tb.toArray⟩, .int .i64 0, .int .i64 (i : Nat)]) := HT.out.set_ 1 _
                      have HY : ∀ o, ((w2.setCell ⟨wo.heap.size, 1, none⟩ (.string ⟨tb.toArray⟩)).alloc o).heap[w2.heap.size]? = some o := fun o => by have h := heap_alloc_new (w2.setCell ⟨wo.heap.size, 1, none⟩ (.string ⟨tb.toArray⟩)) o; rwa [show (w2.setCell ⟨wo.heap.size, 1, none⟩ (.string ⟨tb.toArray⟩)).heap.size = w2.heap.size by simp [World.setCell]] at h
                      have HY2 := Lib.hid HY
                      clear HY
                      have HO3 := Lib.hid (ownsRow_setCell_other HO2.out (a := ⟨wo.heap.size, 1, none⟩) HFAR.out (.string ⟨tb.toArray⟩))
                      have HBS := Lib.hid (HBW.out.setCell (p := ⟨wo.heap.size, 1, none⟩) HB.out.size (.string ⟨tb.toArray⟩))
                      go_wp2_with fail
                      go_step3
                      go_wp2_with fail
                      refine ⟨rfl, ?_⟩
                      go_wp2_with (first | (refine wpList_load_row rfl 35 _ rfl wo.heap.size rfl 35 _ (0, 0) _ HT2.out Tryd.underlying35 rfl (by kernel_rfl) ?_) | (at_builtin; refine wpList_app_tok rfl (.tmp 155) (.tmp 157) rfl w.heap.size w2.heap.size m A cap l ⟨3, tb, 0, i⟩ rfl (HO3.out.alloc _) rfl (HY2.out _) (by omega) (by have := HBW.out.size; simp; omega) ?_; intro A3 c3 w3 ho3 hg3; have HO4 := Lib.hid ho3; have HG3 := Lib.hid hg3; clear ho3 hg3))
                      go_wp2_with fail
                      simp only [Exit.jump]
                      go_wp2_with fail
                      go_roundw
                      case rel => exact ⟨te, l ++ [⟨3, tb, 0, i⟩], A3, c3, by go_num, by rw [List.length_append, ← HM.out]; rfl, by omega, by rw [List.length_append, ← HM.out]; simp; omega, HR2.out, by rw [List.length_append, ← HM.out]; exact HO4.out, (HBS.out.alloc (by have := HBW.out.size; simp; omega) _).grown HG3.out (by have := HBW.out.size; simp; omega) (fun g hg => (World.ownsRow.lt HO.out g hg).1)⟩
                      case measure => simp [intOf]; omega
                    · have HTX := Lib.hid htx
                      clear htx
                      have HR : Hid (R = ([], tq, ter)) := by
                        rw [← HSTEP.out]
                        refine all_bad HCH.out HN32.out HN10.out HN35.out ?_ l
                        unfold oneL; rw [HLE2.out, HDI2.out]; simp only [Bool.false_eq_true, if_false]; rw [if_pos H34.out]; exact htt
                      have hbe : ((ter : Int) != 0) = true := by rw [bne_iff_ne]; omega
                      rw [← HST.out] at HTX
                      clear htt hter
                      go_wp2_with fail
                      refine wp_scope_forward 1 rfl ?_
                      go_wp2_with fail
                      refine (HLE.out _).mono ?_
                      rintro e w2 ⟨rfl, hw2⟩
                      rw [hw2, hle]
                      clear hw2 w2
                      go_wp2_with fail
                      refine (HDI.out _).mono ?_
                      rintro e w2 ⟨rfl, hw2⟩
                      rw [hw2, hdi]
                      clear hw2 w2
                      go_wp2_with fail
                      refine (HTX.out _).mono ?_
                      rintro e w2 ⟨rfl, hb2⟩
                      have HT : Hid (Blk w2 wo.heap.size 35 #[.int .u8 3, .string ⟨#[]⟩, .int .i64 0, .int .i64 (i : Nat)]) := Blk.below (Blk.new wo 35 _) hb2 (by simp)
                      have hz2 : wo.heap.size < w2.heap.size := HT.out.lt
                      have HBW := Lib.hid ((HB.out.alloc HB.out.size _).trans (hb2.mono (by have := HB.out.size; simp; omega)))
                      clear hb2
                      have hcell : w2.cell? ⟨wo.heap.size, 1, none⟩ = some (.string ⟨#[]⟩) := HT.out.cell 1
                      have hfro : w2.frozen? ⟨wo.heap.size, 1, none⟩ = false := HT.out.frozen 1
                      go_wp2_with fail
                      simp only [Exit.jump]
                      go_wp2_with fail
                      rw [Exit.noGoto_ret]
                      go_ret3
                      exact ⟨none, 0, by rw [HR.out]; rfl, by rw [HR.out]; exact World.ownsRow_nil _ _ _ _, HBW.out.setCell HB.out.size _⟩
                  · have hb34 : ((cv : Int) == 34) = false := by rw [beq_eq_false_iff_ne]; omega
                    have HN34 : Hid (ch ≠ 34) := fun h => h34 (HCV.out.trans ((HE.out 34).1 h))
                    clear h34
                    obtain ⟨z1, hz1⟩ : ∃ z : Int, z = Lib.indexByte signs ch := ⟨_, rfl⟩
                    obtain ⟨z2, hz2⟩ : ∃ z : Int, z = Lib.indexByte sg2 ch := ⟨_, rfl⟩
                    have HZ1 := Lib.hid (sg1_idx ch)
                    have HZ2 := Lib.hid (sg2_idx ch)
                    rw [← hz1] at HS1 HZ1
                    rw [← hz2] at HS2 HZ2
                    clear hz1 hz2
                    by_cases h33 : cv = 33
                    · have hb33 : ((cv : Int) == 33) = true := by rw [h33]; rfl
                      have H33 : Hid (ch = 33) := (HE.out 33).2 (HCV.out.symm.trans h33)
                      clear h33
                      by_cases hend : n = i + 1
                      · have HR : Hid (R = ([], i + 1, 4)) := by
                          rw [← HSTEP.out]
                          refine all_bad HCH.out HN32.out HN10.out HN35.out ?_ l
                          unfold oneL; rw [HLE2.out, HDI2.out]; simp only [Bool.false_eq_true, if_false]; rw [if_neg HN34.out]
                          unfold signL; rw [if_pos ⟨H33.out, by rw [← HN.out]; omega⟩]
                        have hd3 : ((i : Int) + 1 == (n : Int)) = true := by rw [beq_iff_eq]; omega
                        clear hend
                        go_wp2_with fail
                        refine wp_scope_forward 1 rfl ?_
                        go_wp2_with fail
                        refine (HLE.out _).mono ?_
                        rintro e w2 ⟨rfl, hw2⟩
                        rw [hw2, hle]
                        clear hw2 w2
                        go_wp2_with fail
                        refine (HDI.out _).mono ?_
                        rintro e w2 ⟨rfl, hw2⟩
                        rw [hw2, hdi]
                        clear hw2 w2
                        go_wp2_with fail
                        simp only [Exit.jump]
                        go_wp2_with fail
                        rw [Exit.noGoto_ret]
                        go_ret3
                        exact ⟨none, 0, by rw [HR.out]; rfl, by rw [HR.out]; exact World.ownsRow_nil _ _ _ _, HB.out.alloc HB.out.size _⟩
                      · have hlt1 : i + 1 < n := by omega
                        have hd3 : ((i : Int) + 1 == (n : Int)) = false := by rw [beq_eq_false_iff_ne]; omega
                        clear hend
                        have hks1 : i + 1 < s.length := by rw [← HN.out]; omega
                        obtain ⟨c1, hc1⟩ : ∃ c, c = s[i + 1] := ⟨_, rfl⟩
                        have hist1 : i + 1 < st.size := by omega
                        have hg1 : st[i + 1] = c1 := by rw [hc1]; exact st_get HST.out hist1 hks1
                        have HC1 : Hid (s[i + 1]? = some c1) := by rw [hc1]; exact List.getElem?_eq_getElem hks1
                        have HE1 : Hid (c1 = 61 ↔ c1.toNat = 61) := ⟨fun h => by rw [h]; rfl, fun h => UInt8.toNat_inj.1 h⟩
                        have hcl1 : c1.toNat < 256 := UInt8.toNat_lt _
                        obtain ⟨dv, hdv⟩ : ∃ v, v = c1.toNat := ⟨_, rfl⟩
                        have hgd : st[i + 1].toNat = dv := by rw [hg1, hdv]
                        rw [← hdv] at HE1 hcl1
                        clear hc1 hks1 hg1 hdv
                        by_cases h61 : dv = 61
                        · have hd4 : ((dv : Int) != 61) = false := by rw [h61]; rfl
                          have hd5 : ((dv : Int) == 61) = true := by rw [h61]; rfl
                          have HR2 : Hid (allL s (i + 2) (l ++ [⟨4, cutL s i (i + 2), 0, i⟩]) = R) := by
                            rw [← HSTEP.out]
                            refine (all_tok HCH.out HN32.out HN10.out HN35.out ?_ l).symm
                            unfold oneL; rw [HLE2.out, HDI2.out]; simp only [Bool.false_eq_true, if_false]; rw [if_neg HN34.out]
                            unfold signL; rw [if_neg (fun h => by have h2 := h.2; rw [← HN.out] at h2; omega), if_neg (fun h => h.2 (by rw [HC1.out, HE1.out.2 h61])), if_pos (by rw [H33.out]; decide), if_pos ⟨.inr (.inr H33.out), by rw [HC1.out, HE1.out.2 h61]⟩]
                          have hd1 : decide (z1 < 0) = false := decide_eq_false (fun h => (HZ1.out.1 h) (by rw [H33.out]; decide))
                          have hd2 : decide (0 ≤ z2) = true := decide_eq_true (HZ2.out.2 (.inr (.inr H33.out)))
                          clear h61
                          have hi1 : (i + 2) ≤ n := by omega
                          have hsl := fun W => run_slice_string (P := Tryd.prog) (w := W) 9 st .i64 .i64 (i : Nat) (((i + 2) : Nat) : Int) Tryd.underlying9 (by omega) (by omega) (by omega)
                          simp only [Int.toNat_natCast] at hsl
                          have hex : st.extract i (i + 2) = ⟨(cutL s i (i + 2)).toArray⟩ := by rw [HST.out]; exact ext_cut s i (i + 2)
                          rw [hex] at hsl
                          have hci : (((i + 2) : Nat) : Int) = (i : Int) + 1 + 1 := by omega
                          rw [hci] at hsl
                          clear hci
                          clear hex
                          go_wp2_with fail
                          refine wp_scope_forward 1 rfl ?_
                          go_wp2_with fail
                          refine (HLE.out _).mono ?_
                          rintro e w2 ⟨rfl, hw2⟩
                          rw [hw2, hle]
                          clear hw2 w2
                          go_wp2_with fail
                          refine (HDI.out _).mono ?_
                          rintro e w2 ⟨rfl, hw2⟩
                          rw [hw2, hdi]
                          clear hw2 w2
                          go_wp2_with fail
                          refine (HS1.out _).mono ?_
                          rintro e w2 ⟨rfl, hw2⟩
                          rw [hw2]
                          clear hw2 w2
                          go_wp2_with fail
                          refine (HS2.out _).mono ?_
                          rintro e w2 ⟨rfl, hw2⟩
                          rw [hw2]
                          clear hw2 w2
                          go_wp2_with fail
                          go_region
                          go_wp2_with fail
                          go_step3
                          go_wp2_with (at_builtin; refine wpList_app_tok rfl (.tmp 155) (.tmp 157) rfl w.heap.size (wo.heap.size + 1) m A cap l ⟨4, cutL s i (i + 2), 0, i⟩ rfl ((HO.out.alloc _).alloc _) rfl (new2 wo _ _) (by omega) (by have := HB.out.size; simp; omega) ?_; intro A3 c3 w3 ho3 hg3; have HO3 := Lib.hid ho3; have HG3 := Lib.hid hg3; clear ho3 hg3)
                          go_wp2_with fail
                          simp only [Exit.jump]
                          go_wp2_with fail
                          go_roundw
                          case rel => exact ⟨(i + 2), l ++ [⟨4, cutL s i (i + 2), 0, i⟩], A3, c3, by go_num, by rw [List.length_append, ← HM.out]; rfl, by omega, by rw [List.length_append, ← HM.out]; simp; omega, HR2.out, by rw [List.length_append, ← HM.out]; exact HO3.out, ((HB.out.alloc HB.out.size _).alloc (by have := HB.out.size; simp; omega) _).drew.grown HG3.out (by have := HB.out.size; simp; omega) (fun g hg => (World.ownsRow.lt HO.out g hg).1)⟩
                          case measure => simp [intOf]; omega
                        · have hd4 : ((dv : Int) != 61) = true := by rw [bne_iff_ne]; omega
                          have HR : Hid (R = ([], i + 1, 9)) := by
                            rw [← HSTEP.out]
                            refine all_bad HCH.out HN32.out HN10.out HN35.out ?_ l
                            unfold oneL; rw [HLE2.out, HDI2.out]; simp only [Bool.false_eq_true, if_false]; rw [if_neg HN34.out]
                            unfold signL; rw [if_neg (fun h => by have h2 := h.2; rw [← HN.out] at h2; omega), if_pos ⟨H33.out, fun h => by rw [HC1.out] at h; injection h with h; exact h61 (HE1.out.1 h)⟩]
                          clear h61
                          go_wp2_with fail
                          refine wp_scope_forward 1 rfl ?_
                          go_wp2_with fail
                          refine (HLE.out _).mono ?_
                          rintro e w2 ⟨rfl, hw2⟩
                          rw [hw2, hle]
                          clear hw2 w2
                          go_wp2_with fail
                          refine (HDI.out _).mono ?_
                          rintro e w2 ⟨rfl, hw2⟩
                          rw [hw2, hdi]
                          clear hw2 w2
                          go_wp2_with fail
                          simp only [Exit.jump]
                          go_wp2_with fail
                          rw [Exit.noGoto_ret]
                          go_ret3
                          exact ⟨none, 0, by rw [HR.out]; rfl, by rw [HR.out]; exact World.ownsRow_nil _ _ _ _, HB.out.alloc HB.out.size _⟩
                    · have hb33 : ((cv : Int) == 33) = false := by rw [beq_eq_false_iff_ne]; omega
                      have HN33 : Hid (ch ≠ 33) := fun h => h33 (HCV.out.trans ((HE.out 33).1 h))
                      clear h33
                      by_cases hz1 : z1 < 0
                      · have HR : Hid (R = ([], i, 9)) := by
                          rw [← HSTEP.out]
                          refine all_bad HCH.out HN32.out HN10.out HN35.out ?_ l
                          unfold oneL; rw [HLE2.out, HDI2.out]; simp only [Bool.false_eq_true, if_false]; rw [if_neg HN34.out]
                          unfold signL; rw [if_neg (fun h => HN33.out h.1), if_neg (fun h => HN33.out h.1), if_neg (HZ1.out.1 hz1)]
                        have hd1 : decide (z1 < 0) = true := decide_eq_true hz1
                        clear hz1
                        go_wp2_with fail
                        refine wp_scope_forward 1 rfl ?_
                        go_wp2_with fail
                        refine (HLE.out _).mono ?_
                        rintro e w2 ⟨rfl, hw2⟩
                        rw [hw2, hle]
                        clear hw2 w2
                        go_wp2_with fail
                        refine (HDI.out _).mono ?_
                        rintro e w2 ⟨rfl, hw2⟩
                        rw [hw2, hdi]
                        clear hw2 w2
                        go_wp2_with fail
                        refine (HS1.out _).mono ?_
                        rintro e w2 ⟨rfl, hw2⟩
                        rw [hw2]
                        clear hw2 w2
                        go_wp2_with fail
                        simp only [Exit.jump]
                        go_wp2_with fail
                        rw [Exit.noGoto_ret]
                        go_ret3
                        exact ⟨none, 0, by rw [HR.out]; rfl, by rw [HR.out]; exact World.ownsRow_nil _ _ _ _, HB.out.alloc HB.out.size _⟩
                      · have hd1 : decide (z1 < 0) = false := decide_eq_false hz1
                        have HSG : Hid (ch ∈ signs) := (Decidable.not_not (p := ch ∈ signs)).1 (fun h => hz1 (HZ1.out.2 h))
                        clear hz1
                        by_cases hz2 : 0 ≤ z2
                        · have HZ3 := Lib.hid (HZ2.out.1 hz2)
                          have hd2 : decide (0 ≤ z2) = true := decide_eq_true hz2
                          clear hz2
                          by_cases hend : n ≤ i + 1
                          · have hd3 : decide ((i : Int) + 1 < (n : Int)) = false := decide_eq_false (by omega)
                            have HR2 : Hid (allL s (i + 1) (l ++ [⟨4, cutL s i (i + 1), 0, i⟩]) = R) := by
                              rw [← HSTEP.out]
                              refine (all_tok HCH.out HN32.out HN10.out HN35.out ?_ l).symm
                              unfold oneL; rw [HLE2.out, HDI2.out]; simp only [Bool.false_eq_true, if_false]; rw [if_neg HN34.out]
                              unfold signL; rw [if_neg (fun h => HN33.out h.1), if_neg (fun h => HN33.out h.1), if_pos HSG.out, if_neg (fun h => by rw [List.getElem?_eq_none (by rw [← HN.out]; omega)] at h; cases h.2)]
                            clear hend
                            have hi1 : (i + 1) ≤ n := by omega
                            have hsl := fun W => run_slice_string (P := Tryd.prog) (w := W) 9 st .i64 .i64 (i : Nat) (((i + 1) : Nat) : Int) Tryd.underlying9 (by omega) (by omega) (by omega)
                            simp only [Int.toNat_natCast] at hsl
                            have hex : st.extract i (i + 1) = ⟨(cutL s i (i + 1)).toArray⟩ := by rw [HST.out]; exact ext_cut s i (i + 1)
                            rw [hex] at hsl
                            have hci : (((i + 1) : Nat) : Int) = (i : Int) + 1 := by omega
                            rw [hci] at hsl
                            clear hci
                            clear hex
                            go_wp2_with fail
                            refine wp_scope_forward 1 rfl ?_
                            go_wp2_with fail
                            refine (HLE.out _).mono ?_
                            rintro e w2 ⟨rfl, hw2⟩
                            rw [hw2, hle]
                            clear hw2 w2
                            go_wp2_with fail
                            refine (HDI.out _).mono ?_
                            rintro e w2 ⟨rfl, hw2⟩
                            rw [hw2, hdi]
                            clear hw2 w2
                            go_wp2_with fail
                            refine (HS1.out _).mono ?_
                            rintro e w2 ⟨rfl, hw2⟩
                            rw [hw2]
                            clear hw2 w2
                            go_wp2_with fail
                            refine (HS2.out _).mono ?_
                            rintro e w2 ⟨rfl, hw2⟩
                            rw [hw2]
                            clear hw2 w2
                            go_wp2_with fail
                            go_region
                            go_wp2_with fail
                            go_step3
                            go_wp2_with (at_builtin; refine wpList_app_tok rfl (.tmp 155) (.tmp 157) rfl w.heap.size (wo.heap.size + 1) m A cap l ⟨4, cutL s i (i + 1), 0, i⟩ rfl ((HO.out.alloc _).alloc _) rfl (new2 wo _ _) (by omega) (by have := HB.out.size; simp; omega) ?_; intro A3 c3 w3 ho3 hg3; have HO3 := Lib.hid ho3; have HG3 := Lib.hid hg3; clear ho3 hg3)
                            go_wp2_with fail
                            simp only [Exit.jump]
                            go_wp2_with fail
                            go_roundw
                            case rel => exact ⟨(i + 1), l ++ [⟨4, cutL s i (i + 1), 0, i⟩], A3, c3, by go_num, by rw [List.length_append, ← HM.out]; rfl, by omega, by rw [List.length_append, ← HM.out]; simp; omega, HR2.out, by rw [List.length_append, ← HM.out]; exact HO3.out, ((HB.out.alloc HB.out.size _).alloc (by have := HB.out.size; simp; omega) _).drew.grown HG3.out (by have := HB.out.size; simp; omega) (fun g hg => (World.ownsRow.lt HO.out g hg).1)⟩
                            case measure => simp [intOf]; omega
                          · have hlt1 : i + 1 < n := by omega
                            clear hend
                            have hks1 : i + 1 < s.length := by rw [← HN.out]; omega
                            obtain ⟨c1, hc1⟩ : ∃ c, c = s[i + 1] := ⟨_, rfl⟩
                            have hist1 : i + 1 < st.size := by omega
                            have hg1 : st[i + 1] = c1 := by rw [hc1]; exact st_get HST.out hist1 hks1
                            have HC1 : Hid (s[i + 1]? = some c1) := by rw [hc1]; exact List.getElem?_eq_getElem hks1
                            have HE1 : Hid (c1 = 61 ↔ c1.toNat = 61) := ⟨fun h => by rw [h]; rfl, fun h => UInt8.toNat_inj.1 h⟩
                            have hcl1 : c1.toNat < 256 := UInt8.toNat_lt _
                            obtain ⟨dv, hdv⟩ : ∃ v, v = c1.toNat := ⟨_, rfl⟩
                            have hgd : st[i + 1].toNat = dv := by rw [hg1, hdv]
                            rw [← hdv] at HE1 hcl1
                            clear hc1 hks1 hg1 hdv
                            by_cases h61 : dv = 61
                            · have hd4 : ((dv : Int) == 61) = true := by rw [h61]; rfl
                              have HR2 : Hid (allL s (i + 2) (l ++ [⟨4, cutL s i (i + 2), 0, i⟩]) = R) := by
                                rw [← HSTEP.out]
                                refine (all_tok HCH.out HN32.out HN10.out HN35.out ?_ l).symm
                                unfold oneL; rw [HLE2.out, HDI2.out]; simp only [Bool.false_eq_true, if_false]; rw [if_neg HN34.out]
                                unfold signL; rw [if_neg (fun h => HN33.out h.1), if_neg (fun h => HN33.out h.1), if_pos HSG.out, if_pos ⟨HZ3.out, by rw [HC1.out, HE1.out.2 h61]⟩]
                              clear h61
                              have hi1 : (i + 2) ≤ n := by omega
                              have hsl := fun W => run_slice_string (P := Tryd.prog) (w := W) 9 st .i64 .i64 (i : Nat) (((i + 2) : Nat) : Int) Tryd.underlying9 (by omega) (by omega) (by omega)
                              simp only [Int.toNat_natCast] at hsl
                              have hex : st.extract i (i + 2) = ⟨(cutL s i (i + 2)).toArray⟩ := by rw [HST.out]; exact ext_cut s i (i + 2)
                              rw [hex] at hsl
                              have hci : (((i + 2) : Nat) : Int) = (i : Int) + 1 + 1 := by omega
                              rw [hci] at hsl
                              clear hci
                              clear hex
                              go_wp2_with fail
                              refine wp_scope_forward 1 rfl ?_
                              go_wp2_with fail
                              refine (HLE.out _).mono ?_
                              rintro e w2 ⟨rfl, hw2⟩
                              rw [hw2, hle]
                              clear hw2 w2
                              go_wp2_with fail
                              refine (HDI.out _).mono ?_
                              rintro e w2 ⟨rfl, hw2⟩
                              rw [hw2, hdi]
                              clear hw2 w2
                              go_wp2_with fail
                              refine (HS1.out _).mono ?_
                              rintro e w2 ⟨rfl, hw2⟩
                              rw [hw2]
                              clear hw2 w2
                              go_wp2_with fail
                              refine (HS2.out _).mono ?_
                              rintro e w2 ⟨rfl, hw2⟩
                              rw [hw2]
                              clear hw2 w2
                              go_wp2_with fail
                              go_region
                              go_wp2_with fail
                              go_step3
                              go_wp2_with (at_builtin; refine wpList_app_tok rfl (.tmp 155) (.tmp 157) rfl w.heap.size (wo.heap.size + 1) m A cap l ⟨4, cutL s i (i + 2), 0, i⟩ rfl ((HO.out.alloc _).alloc _) rfl (new2 wo _ _) (by omega) (by have := HB.out.size; simp; omega) ?_; intro A3 c3 w3 ho3 hg3; have HO3 := Lib.hid ho3; have HG3 := Lib.hid hg3; clear ho3 hg3)
                              go_wp2_with fail
                              simp only [Exit.jump]
                              go_wp2_with fail
                              go_roundw
                              case rel => exact ⟨(i + 2), l ++ [⟨4, cutL s i (i + 2), 0, i⟩], A3, c3, by go_num, by rw [List.length_append, ← HM.out]; rfl, by omega, by rw [List.length_append, ← HM.out]; simp; omega, HR2.out, by rw [List.length_append, ← HM.out]; exact HO3.out, ((HB.out.alloc HB.out.size _).alloc (by have := HB.out.size; simp; omega) _).drew.grown HG3.out (by have := HB.out.size; simp; omega) (fun g hg => (World.ownsRow.lt HO.out g hg).1)⟩
                              case measure => simp [intOf]; omega
                            · have hd4 : ((dv : Int) == 61) = false := by rw [beq_eq_false_iff_ne]; omega
                              have HR2 : Hid (allL s (i + 1) (l ++ [⟨4, cutL s i (i + 1), 0, i⟩]) = R) := by
                                rw [← HSTEP.out]
                                refine (all_tok HCH.out HN32.out HN10.out HN35.out ?_ l).symm
                                unfold oneL; rw [HLE2.out, HDI2.out]; simp only [Bool.false_eq_true, if_false]; rw [if_neg HN34.out]
                                unfold signL; rw [if_neg (fun h => HN33.out h.1), if_neg (fun h => HN33.out h.1), if_pos HSG.out, if_neg (fun h => by have h2 := h.2; rw [HC1.out] at h2; injection h2 with h2; exact h61 (HE1.out.1 h2))]
                              clear h61
                              have hi1 : (i + 1) ≤ n := by omega
                              have hsl := fun W => run_slice_string (P := Tryd.prog) (w := W) 9 st .i64 .i64 (i : Nat) (((i + 1) : Nat) : Int) Tryd.underlying9 (by omega) (by omega) (by omega)
                              simp only [Int.toNat_natCast] at hsl
                              have hex : st.extract i (i + 1) = ⟨(cutL s i (i + 1)).toArray⟩ := by rw [HST.out]; exact ext_cut s i (i + 1)
                              rw [hex] at hsl
                              have hci : (((i + 1) : Nat) : Int) = (i : Int) + 1 := by omega
                              rw [hci] at hsl
                              clear hci
                              clear hex
                              go_wp2_with fail
                              refine wp_scope_forward 1 rfl ?_
                              go_wp2_with fail
                              refine (HLE.out _).mono ?_
                              rintro e w2 ⟨rfl, hw2⟩
                              rw [hw2, hle]
                              clear hw2 w2
                              go_wp2_with fail
                              refine (HDI.out _).mono ?_
                              rintro e w2 ⟨rfl, hw2⟩
                              rw [hw2, hdi]
                              clear hw2 w2
                              go_wp2_with fail
                              refine (HS1.out _).mono ?_
                              rintro e w2 ⟨rfl, hw2⟩
                              rw [hw2]
                              clear hw2 w2
                              go_wp2_with fail
                              refine (HS2.out _).mono ?_
                              rintro e w2 ⟨rfl, hw2⟩
                              rw [hw2]
                              clear hw2 w2
                              go_wp2_with fail
                              go_region
                              go_wp2_with fail
                              go_step3
                              go_wp2_with (at_builtin; refine wpList_app_tok rfl (.tmp 155) (.tmp 157) rfl w.heap.size (wo.heap.size + 1) m A cap l ⟨4, cutL s i (i + 1), 0, i⟩ rfl ((HO.out.alloc _).alloc _) rfl (new2 wo _ _) (by omega) (by have := HB.out.size; simp; omega) ?_; intro A3 c3 w3 ho3 hg3; have HO3 := Lib.hid ho3; have HG3 := Lib.hid hg3; clear ho3 hg3)
                              go_wp2_with fail
                              simp only [Exit.jump]
                              go_wp2_with fail
                              go_roundw
                              case rel => exact ⟨(i + 1), l ++ [⟨4, cutL s i (i + 1), 0, i⟩], A3, c3, by go_num, by rw [List.length_append, ← HM.out]; rfl, by omega, by rw [List.length_append, ← HM.out]; simp; omega, HR2.out, by rw [List.length_append, ← HM.out]; exact HO3.out, ((HB.out.alloc HB.out.size _).alloc (by have := HB.out.size; simp; omega) _).drew.grown HG3.out (by have := HB.out.size; simp; omega) (fun g hg => (World.ownsRow.lt HO.out g hg).1)⟩
                              case measure => simp [intOf]; omega
                        · have hd2 : decide (0 ≤ z2) = false := decide_eq_false hz2
                          have HR2 : Hid (allL s (i + 1) (l ++ [⟨4, cutL s i (i + 1), 0, i⟩]) = R) := by
                            rw [← HSTEP.out]
                            refine (all_tok HCH.out HN32.out HN10.out HN35.out ?_ l).symm
                            unfold oneL; rw [HLE2.out, HDI2.out]; simp only [Bool.false_eq_true, if_false]; rw [if_neg HN34.out]
                            unfold signL; rw [if_neg (fun h => HN33.out h.1), if_neg (fun h => HN33.out h.1), if_pos HSG.out, if_neg (fun h => hz2 (HZ2.out.2 h.1))]
                          clear hz2
                          have hi1 : (i + 1) ≤ n := by omega
                          have hsl := fun W => run_slice_string (P := Tryd.prog) (w := W) 9 st .i64 .i64 (i : Nat) (((i + 1) : Nat) : Int) Tryd.underlying9 (by omega) (by omega) (by omega)
                          simp only [Int.toNat_natCast] at hsl
                          have hex : st.extract i (i + 1) = ⟨(cutL s i (i + 1)).toArray⟩ := by rw [HST.out]; exact ext_cut s i (i + 1)
                          rw [hex] at hsl
                          have hci : (((i + 1) : Nat) : Int) = (i : Int) + 1 := by omega
                          rw [hci] at hsl
                          clear hci
                          clear hex
                          go_wp2_with fail
                          refine wp_scope_forward 1 rfl ?_
                          go_wp2_with fail
                          refine (HLE.out _).mono ?_
                          rintro e w2 ⟨rfl, hw2⟩
                          rw [hw2, hle]
                          clear hw2 w2
                          go_wp2_with fail
                          refine (HDI.out _).mono ?_
                          rintro e w2 ⟨rfl, hw2⟩
                          rw [hw2, hdi]
                          clear hw2 w2
                          go_wp2_with fail
                          refine (HS1.out _).mono ?_
                          rintro e w2 ⟨rfl, hw2⟩
                          rw [hw2]
                          clear hw2 w2
                          go_wp2_with fail
                          refine (HS2.out _).mono ?_
                          rintro e w2 ⟨rfl, hw2⟩
                          rw [hw2]
                          clear hw2 w2
                          go_wp2_with fail
                          go_region
                          go_wp2_with fail
                          go_step3
                          go_wp2_with (at_builtin; refine wpList_app_tok rfl (.tmp 155) (.tmp 157) rfl w.heap.size (wo.heap.size + 1) m A cap l ⟨4, cutL s i (i + 1), 0, i⟩ rfl ((HO.out.alloc _).alloc _) rfl (new2 wo _ _) (by omega) (by have := HB.out.size; simp; omega) ?_; intro A3 c3 w3 ho3 hg3; have HO3 := Lib.hid ho3; have HG3 := Lib.hid hg3; clear ho3 hg3)
                          go_wp2_with fail
                          simp only [Exit.jump]
                          go_wp2_with fail
                          go_roundw
                          case rel => exact ⟨(i + 1), l ++ [⟨4, cutL s i (i + 1), 0, i⟩], A3, c3, by go_num, by rw [List.length_append, ← HM.out]; rfl, by omega, by rw [List.length_append, ← HM.out]; simp; omega, HR2.out, by rw [List.length_append, ← HM.out]; exact HO3.out, ((HB.out.alloc HB.out.size _).alloc (by have := HB.out.size; simp; omega) _).drew.grown HG3.out (by have := HB.out.size; simp; omega) (fun g hg => (World.ownsRow.lt HO.out g hg).1)⟩
                          case measure => simp [intOf]; omega
                · have HDI2 := Lib.hid hdi
                  rcases num_cases s i (by rw [← HN.out]; exact hs) (by rw [← HN.out]; exact hin) with ⟨tx, te, tq, htt, htx⟩ | ⟨tx, te, tq, ter, hter, htt, htx⟩
                  · have HTX := Lib.hid htx
                    clear htx
                    have HR2 := Lib.hid ((all_tok HCH.out HN32.out HN10.out HN35.out (show oneL s i ch = .inr (⟨2, [], tx, i⟩, te) by unfold oneL; rw [HLE2.out, HDI2.out]; simp only [Bool.false_eq_true, if_false, if_true]; exact htt) l).symm.trans HSTEP.out)
                    have hnx := oneL_next HCH.out (show oneL s i ch = .inr (⟨2, [], tx, i⟩, te) by unfold oneL; rw [HLE2.out, HDI2.out]; simp only [Bool.false_eq_true, if_false, if_true]; exact htt)
                    rw [← HN.out] at hnx
                    obtain ⟨hnx1, hnx2⟩ := hnx
                    rw [← HST.out] at HTX
                    clear htt
                    go_wp2_with fail
                    refine wp_scope_forward 1 rfl ?_
                    go_wp2_with fail
                    refine (HLE.out _).mono ?_
                    rintro e w2 ⟨rfl, hw2⟩
                    rw [hw2, hle]
                    clear hw2 w2
                    go_wp2_with fail
                    refine (HDI.out _).mono ?_
                    rintro e w2 ⟨rfl, hw2⟩
                    rw [hw2, hdi]
                    clear hw2 w2
                    go_wp2_with fail
                    refine (HTX.out _).mono ?_
                    rintro e w2 ⟨rfl, hw2⟩
                    rw [hw2]
                    clear hw2 w2
                    go_wp2_with fail
                    go_step3
                    go_wp2_with fail
                    refine ⟨rfl, ?_⟩
                    go_wp2_with (at_builtin; refine wpList_app_tok rfl (.tmp 155) (.tmp 157) rfl w.heap.size (wo.heap.size + 1) m A cap l ⟨2, [], tx, i⟩ rfl ((HO.out.alloc _).alloc _) rfl (new2 wo _ _) (by omega) (by have := HB.out.size; simp; omega) ?_; intro A3 c3 w3 ho3 hg3; have HO3 := Lib.hid ho3; have HG3 := Lib.hid hg3; clear ho3 hg3)
                    go_wp2_with fail
                    simp only [Exit.jump]
                    go_wp2_with fail
                    go_roundw
                    case rel => exact ⟨te, l ++ [⟨2, [], tx, i⟩], A3, c3, by go_num, by rw [List.length_append, ← HM.out]; rfl, by omega, by rw [List.length_append, ← HM.out]; simp; omega, HR2.out, by rw [List.length_append, ← HM.out]; exact HO3.out, ((HB.out.alloc HB.out.size _).alloc (by have := HB.out.size; simp; omega) _).grown HG3.out (by have := HB.out.size; simp; omega) (fun g hg => (World.ownsRow.lt HO.out g hg).1)⟩
                    case measure => simp [intOf]; omega
                  · have HTX := Lib.hid htx
                    clear htx
                    have HR : Hid (R = ([], tq, ter)) := by
                      rw [← HSTEP.out]
                      refine all_bad HCH.out HN32.out HN10.out HN35.out ?_ l
                      unfold oneL; rw [HLE2.out, HDI2.out]; simp only [Bool.false_eq_true, if_false, if_true]; exact htt
                    have hbe : ((ter : Int) != 0) = true := by rw [bne_iff_ne]; omega
                    rw [← HST.out] at HTX
                    clear htt hter
                    go_wp2_with fail
                    refine wp_scope_forward 1 rfl ?_
                    go_wp2_with fail
                    refine (HLE.out _).mono ?_
                    rintro e w2 ⟨rfl, hw2⟩
                    rw [hw2, hle]
                    clear hw2 w2
                    go_wp2_with fail
                    refine (HDI.out _).mono ?_
                    rintro e w2 ⟨rfl, hw2⟩
                    rw [hw2, hdi]
                    clear hw2 w2
                    go_wp2_with fail
                    refine (HTX.out _).mono ?_
                    rintro e w2 ⟨rfl, hw2⟩
                    rw [hw2]
                    clear hw2 w2
                    go_wp2_with fail
                    simp only [Exit.jump]
                    go_wp2_with fail
                    rw [Exit.noGoto_ret]
                    go_ret3
                    exact ⟨none, 0, by rw [HR.out]; rfl, by rw [HR.out]; exact World.ownsRow_nil _ _ _ _, HB.out.alloc HB.out.size _⟩
              · have HLE2 := Lib.hid hle
                obtain ⟨E, hE⟩ : ∃ E, E = scan innB s i := ⟨_, rfl⟩
                have hEn : E ≤ n := by rw [hE, HN.out]; exact scan_le _ _ (by rw [← HN.out]; exact hin)
                have hi1E : scan innB s (i + 1) = E := by
                  have hks : i < s.length := by rw [← HN.out]; exact hlt
                  have hci : s[i] = ch := by have h := HCH.out; rw [List.getElem?_eq_getElem hks] at h; injection h
                  rw [hE]; exact (scan_step _ _ hks (by rw [hci]; unfold innB; rw [hle]; rfl)).symm
                have HEE := Lib.hid hE
                have HI1 := Lib.hid hi1E
                have hEi : i + 1 ≤ E := by rw [← hi1E]; exact scan_ge _ _ _
                clear hE hi1E
                go_wp2_with fail
                refine wp_scope_forward 1 rfl ?_
                go_wp2_with fail
                refine (HLE.out _).mono ?_
                rintro e w2 ⟨rfl, hw2⟩
                rw [hw2, hle]
                clear hw2 w2
                go_wp2_with fail
                go_loopw [8] (fun s8 wr => wr = wo.alloc (.cells #[.int .u8 0, .string ⟨#[]⟩, .int .i64 0, .int .i64 (i : Nat)] 35) ∧ ∃ k : Nat, s8 = .int .i64 k ∧ i + 1 ≤ k ∧ k ≤ E ∧ scan innB s k = E) (fun s8 _ => n - (intOf s8).toNat)
                case atStart => exact ⟨rfl, i + 1, by go_num, Nat.le_refl _, hEi, HI1.out⟩
                case round =>
                  obtain ⟨rfl, k, rfl, hik, hkE0, hsc⟩ := hrel
                  have HX := Lib.hid (And.intro hsc HEE.out)
                  clear hsc
                  by_cases hkn : k < n
                  · have hks1 : k < s.length := by rw [← HN.out]; omega
                    obtain ⟨c1, hc1⟩ : ∃ c, c = s[k] := ⟨_, rfl⟩
                    have hist1 : k < st.size := by omega
                    have hg1 : st[k] = c1 := by rw [hc1]; exact st_get HST.out hist1 hks1
                    have HSP : Hid (innB c1 = false → E = k) := fun hd => by rw [← HX.out.1]; exact scan_stop _ _ hks1 (by rw [← hc1]; exact hd)
                    have HST2 : Hid (innB c1 = true → scan innB s (k + 1) = E) := fun hd => by rw [← HX.out.1]; exact (scan_step _ _ hks1 (by rw [← hc1]; exact hd)).symm
                    clear hc1 hks1
                    have HIN := Lib.hid (fun W => inner_any c1 W)
                    have hcl1 : c1.toNat < 256 := UInt8.toNat_lt _
                    obtain ⟨dv, hdv⟩ : ∃ v, v = c1.toNat := ⟨_, rfl⟩
                    have hgd : st[k].toNat = dv := by rw [hg1, hdv]
                    rw [← hdv] at HIN hcl1
                    clear hg1 hdv
                    cases hinn : innB c1
                    · have hkE := HSP.out hinn
                      by_cases h24 : 24 < k - i
                      · have HR : Hid (R = ([], i, 2)) := by
                          rw [← HSTEP.out]
                          refine all_bad HCH.out HN32.out HN10.out HN35.out ?_ l
                          unfold oneL; rw [HLE2.out]; simp only [if_true]
                          unfold wordL; rw [← HX.out.2, hkE, if_pos h24]
                        have hd24 : decide ((24 : Int) < (k : Int) - (i : Int)) = true := decide_eq_true (by omega)
                        clear hkE h24
                        go_wp2_with fail
                        refine (HIN.out _).mono ?_
                        rintro e w2 ⟨rfl, hw2⟩
                        rw [hw2, hinn]
                        clear hw2 w2
                        go_wp2_with fail
                        simp only [Exit.jump]
                        go_wp2_with fail
                        rw [Exit.noGoto_ret]
                        go_ret3
                        exact ⟨none, 0, by rw [HR.out]; rfl, by rw [HR.out]; exact World.ownsRow_nil _ _ _ _, HB.out.alloc HB.out.size _⟩
                      · have HR2 : Hid (allL s k (l ++ [⟨1, cutL s i k, 0, i⟩]) = R) := by
                          rw [← HSTEP.out]
                          refine (all_tok HCH.out HN32.out HN10.out HN35.out ?_ l).symm
                          unfold oneL; rw [HLE2.out]; simp only [if_true]
                          unfold wordL; rw [← HX.out.2, hkE, if_neg h24]
                        have hd24 : decide ((24 : Int) < (k : Int) - (i : Int)) = false := decide_eq_false (by omega)
                        clear hkE h24
                        have hi1 : k ≤ n := by omega
                        have hsl := fun W => run_slice_string (P := Tryd.prog) (w := W) 9 st .i64 .i64 (i : Nat) ((k : Nat) : Int) Tryd.underlying9 (by omega) (by omega) (by omega)
                        simp only [Int.toNat_natCast] at hsl
                        have hex : st.extract i k = ⟨(cutL s i k).toArray⟩ := by rw [HST.out]; exact ext_cut s i k
                        rw [hex] at hsl
                        clear hex
                        go_wp2_with fail
                        refine (HIN.out _).mono ?_
                        rintro e w2 ⟨rfl, hw2⟩
                        rw [hw2, hinn]
                        clear hw2 w2
                        go_wp2_with fail
                        go_region
                        go_wp2_with fail
                        go_step3
                        go_wp2_with fail
                        refine ⟨rfl, ?_⟩
                        go_wp2_with (at_builtin; refine wpList_app_tok rfl (.tmp 155) (.tmp 157) rfl w.heap.size (wo.heap.size + 1) m A cap l ⟨1, cutL s i k, 0, i⟩ rfl ((HO.out.alloc _).alloc _) rfl (new2 wo _ _) (by omega) (by have := HB.out.size; simp; omega) ?_; intro A3 c3 w3 ho3 hg3; have HO3 := Lib.hid ho3; have HG3 := Lib.hid hg3; clear ho3 hg3)
                        go_wp2_with fail
                        simp only [Exit.jump]
                        go_wp2_with fail
                        go_roundw
                        case rel => exact ⟨k, l ++ [⟨1, cutL s i k, 0, i⟩], A3, c3, by go_num, by rw [List.length_append, ← HM.out]; rfl, by omega, by rw [List.length_append, ← HM.out]; simp; omega, HR2.out, by rw [List.length_append, ← HM.out]; exact HO3.out, ((HB.out.alloc HB.out.size _).alloc (by have := HB.out.size; simp; omega) _).drew.grown HG3.out (by have := HB.out.size; simp; omega) (fun g hg => (World.ownsRow.lt HO.out g hg).1)⟩
                        case measure => simp [intOf]; omega
                    · have HS := Lib.hid (HST2.out hinn)
                      have hkE3 : k + 1 ≤ E := by rw [← HS.out]; exact scan_ge _ _ _
                      go_wp2_with fail
                      refine (HIN.out _).mono ?_
                      rintro e w2 ⟨rfl, hw2⟩
                      rw [hw2, hinn]
                      clear hw2 w2
                      go_wp2_with fail
                      go_roundw
                      case rel => exact ⟨trivial, k + 1, by go_num, by omega, hkE3, HS.out⟩
                      case measure => simp [intOf]; omega
                  · have hkE : E = k := by omega
                    by_cases h24 : 24 < k - i
                    · have HR : Hid (R = ([], i, 2)) := by
                        rw [← HSTEP.out]
                        refine all_bad HCH.out HN32.out HN10.out HN35.out ?_ l
                        unfold oneL; rw [HLE2.out]; simp only [if_true]
                        unfold wordL; rw [← HX.out.2, hkE, if_pos h24]
                      have hd24 : decide ((24 : Int) < (k : Int) - (i : Int)) = true := decide_eq_true (by omega)
                      clear hkE h24
                      go_wp2_with fail
                      simp only [Exit.jump]
                      go_wp2_with fail
                      rw [Exit.noGoto_ret]
                      go_ret3
                      exact ⟨none, 0, by rw [HR.out]; rfl, by rw [HR.out]; exact World.ownsRow_nil _ _ _ _, HB.out.alloc HB.out.size _⟩
                    · have HR2 : Hid (allL s k (l ++ [⟨1, cutL s i k, 0, i⟩]) = R) := by
                        rw [← HSTEP.out]
                        refine (all_tok HCH.out HN32.out HN10.out HN35.out ?_ l).symm
                        unfold oneL; rw [HLE2.out]; simp only [if_true]
                        unfold wordL; rw [← HX.out.2, hkE, if_neg h24]
                      have hd24 : decide ((24 : Int) < (k : Int) - (i : Int)) = false := decide_eq_false (by omega)
                      clear hkE h24
                      have hi1 : k ≤ n := by omega
                      have hsl := fun W => run_slice_string (P := Tryd.prog) (w := W) 9 st .i64 .i64 (i : Nat) ((k : Nat) : Int) Tryd.underlying9 (by omega) (by omega) (by omega)
                      simp only [Int.toNat_natCast] at hsl
                      have hex : st.extract i k = ⟨(cutL s i k).toArray⟩ := by rw [HST.out]; exact ext_cut s i k
                      rw [hex] at hsl
                      clear hex
                      go_wp2_with fail
                      go_region
                      go_wp2_with fail
                      go_step3
                      go_wp2_with fail
                      refine ⟨rfl, ?_⟩
                      go_wp2_with (at_builtin; refine wpList_app_tok rfl (.tmp 155) (.tmp 157) rfl w.heap.size (wo.heap.size + 1) m A cap l ⟨1, cutL s i k, 0, i⟩ rfl ((HO.out.alloc _).alloc _) rfl (new2 wo _ _) (by omega) (by have := HB.out.size; simp; omega) ?_; intro A3 c3 w3 ho3 hg3; have HO3 := Lib.hid ho3; have HG3 := Lib.hid hg3; clear ho3 hg3)
                      go_wp2_with fail
                      simp only [Exit.jump]
                      go_wp2_with fail
                      go_roundw
                      case rel => exact ⟨k, l ++ [⟨1, cutL s i k, 0, i⟩], A3, c3, by go_num, by rw [List.length_append, ← HM.out]; rfl, by omega, by rw [List.length_append, ← HM.out]; simp; omega, HR2.out, by rw [List.length_append, ← HM.out]; exact HO3.out, ((HB.out.alloc HB.out.size _).alloc (by have := HB.out.size; simp; omega) _).drew.grown HG3.out (by have := HB.out.size; simp; omega) (fun g hg => (World.ownsRow.lt HO.out g hg).1)⟩
                      case measure => simp [intOf]; omega
      · have HR : Hid (R = (l, 0, 0)) := by rw [← HSTEP.out]; exact all_end (by rw [← HN.out]; omega)
        go_wp2_with fail
        rw [Exit.noGoto_ret]
        go_ret3
        exact ⟨A, cap, by rw [HR.out, HM.out]; rfl, by rw [HR.out, ← HM.out]; exact HO.out, HB.out⟩
end Go.Proofs.YtbcadlocldplfaaDoor
