/- Contract of token.All. And what follows from it. -/
import Derived.WalkMore
import Derived.ScopeJumps
import Derived.BigRegion
import Derived.OneCell
import Derived.Laws.CopyOwn
import Derived.Deep.QuietTactic
import Derived.BigQuiet
import Derived.Test.YtbcadlocldplfaaGreatMah
set_option linter.unusedSimpArgs false
set_option linter.unusedVariables false
namespace Go.Proofs.YtbcadlocldplfaaGreat
open Go.RowKit
set_option maxRecDepth 100000 in
set_option maxHeartbeats 16000000 in
theorem all_any (s : List UInt8) (hs : s.length ≤ 100000) (w : World) :
    Calls Tryz.prog 12 #[.string ⟨s.toArray⟩] w (AllPost w (srcL s)) := by
  obtain ⟨i0, hi0, hz0, hz1, hz2⟩ := info_parts Tryz.info39
  have HI := Lib.hid (And.intro hi0 (And.intro hz0 (And.intro hz1 hz2)))
  clear hi0 hz0 hz1 hz2
  obtain ⟨st, hst⟩ : ∃ st : ByteArray, st = ⟨s.toArray⟩ := ⟨_, rfl⟩
  have hsz : st.size = s.length := by rw [hst]; rfl
  obtain ⟨n, hn⟩ : ∃ n, n = s.length := ⟨_, rfl⟩
  obtain ⟨R, hR⟩ : ∃ R, R = srcL s := ⟨_, rfl⟩
  rw [← hst, ← hR]
  rw [← hn] at hsz hs
  have HST := Lib.hid hst
  have HN := Lib.hid hn
  have HR0 := Lib.hid hR
  clear hst hn hR
  go_enter Tryz.func12, Tryz.ntmps12
  go_wp2_with fail
  go_step3
  by_cases hlong : 16384 < n
  · have HR : Hid (R = ([], 0, 2)) := by rw [HR0.out]; unfold srcL; rw [if_pos (by rw [← HN.out]; exact hlong)]; exact rfl
    go_wp2_with fail
    rw [Exit.noGoto_ret]
    go_ret3
    exact ⟨none, 0, by rw [HR.out]; rfl, by rw [HR.out]; exact World.ownsRow_nil _ _ _ _, Below.refl _ _⟩
  · have HR1 : Hid (allL s 0 [] = R) := by rw [HR0.out]; unfold srcL; rw [if_neg (by rw [← HN.out]; exact hlong)]; exact rfl
    go_wp2_with fail
    go_step3
    go_wp2_with fail
    go_loopw [2, 5] (fun s2 s5 wr => ∃ (i : Nat) (l : List Tok) (A : Option Addr) (cap : Nat), s5 = .int .i64 i ∧ s2 = .slice A l.length cap ∧ i ≤ n ∧ l.length ≤ i ∧ allL s i l = R ∧ wr.ownsRow w.heap.size 56 4 (.slice A l.length cap) l.length (tcells l) ∧ Below w.heap.size w wr) (fun _ s5 _ => n - (intOf s5).toNat)
    case atStart => exact ⟨0, [], none, 0, rfl, rfl, by omega, by simp, HR1.out, World.ownsRow_nil _ _ _ _, Below.refl _ _⟩
    case round =>
      obtain ⟨i, l, A, cap, rfl, rfl, hin, hli, hR, ho, hb⟩ := hrel
      have HB := Lib.hid hb
      obtain ⟨m, hm⟩ : ∃ m, m = l.length := ⟨_, rfl⟩
      rw [← hm] at ho hli ⊢
      have HO := Lib.hid ho
      have HM := Lib.hid hm
      have HSTEP := Lib.hid hR
      clear hR hb ho hm
      by_cases hlt : i < n
      · have hks : i < s.length := by rw [← HN.out]; exact hlt
        obtain ⟨ch, hch⟩ : ∃ c, c = s[i] := ⟨_, rfl⟩
        have hist : i < st.size := by omega
        have hg : st[i] = ch := by rw [hch]; exact st_get HST.out hist hks
        have HCH : Hid (s[i]? = some ch) := by rw [hch]; exact List.getElem?_eq_getElem hks
        clear hch hks
        have HE : Hid (∀ q : UInt8, ch = q ↔ ch.toNat = q.toNat) := fun q => ⟨fun h => by rw [h], fun h => UInt8.toNat_inj.1 h⟩
        have hcl : ch.toNat < 256 := UInt8.toNat_lt _
        have HLE := Lib.hid (fun W => letter_any ch W)
        have HDI := Lib.hid (fun W => digit_any ch W)
        have HS1 := Lib.hid (fun W => sg1_any ch W)
        have HS2 := Lib.hid (fun W => sg2_any ch W)
        obtain ⟨cv, hcv⟩ : ∃ v, v = ch.toNat := ⟨_, rfl⟩
        have hg2 : st[i].toNat = cv := by rw [hg, hcv]
        have HCV := Lib.hid hcv
        rw [← hcv] at hcl HLE HDI HS1 HS2
        clear hg hcv
        obtain ⟨wo, rfl⟩ : ∃ wo : World, wo = wr := ⟨_, rfl⟩
        by_cases h32 : cv = 32
        · have hb32 : ((cv : Int) == 32) = true := by rw [h32]; rfl
          have HR2 : Hid (allL s (i + 1) l = R) := by rw [← HSTEP.out]; exact (all_blank HCH.out (.inl ((HE.out 32).2 (HCV.out.symm.trans h32))) l).symm
          clear h32
          go_wp2_with fail
          refine wp_scope_forward 1 rfl ?_
          go_wp2_with fail
          simp only [Exit.jump]
          go_wp2_with fail
          go_roundw
          case rel => exact ⟨i + 1, l, A, cap, by go_num, by rw [HM.out], by omega, by rw [← HM.out]; omega, HR2.out, by rw [← HM.out]; exact HO.out.alloc _, HB.out.alloc HB.out.size _⟩
          case measure => simp [intOf]; omega
        · have hb32 : ((cv : Int) == 32) = false := by rw [beq_eq_false_iff_ne]; omega
          have HN32 : Hid (ch ≠ 32) := fun h => h32 (HCV.out.trans ((HE.out 32).1 h))
          clear h32
          by_cases h10 : cv = 10
          · have hb10 : ((cv : Int) == 10) = true := by rw [h10]; rfl
            have HR2 : Hid (allL s (i + 1) l = R) := by rw [← HSTEP.out]; exact (all_blank HCH.out (.inr ((HE.out 10).2 (HCV.out.symm.trans h10))) l).symm
            clear h10
            go_wp2_with fail
            refine wp_scope_forward 1 rfl ?_
            go_wp2_with fail
            simp only [Exit.jump]
            go_wp2_with fail
            go_roundw
            case rel => exact ⟨i + 1, l, A, cap, by go_num, by rw [HM.out], by omega, by rw [← HM.out]; omega, HR2.out, by rw [← HM.out]; exact HO.out.alloc _, HB.out.alloc HB.out.size _⟩
            case measure => simp [intOf]; omega
          · have hb10 : ((cv : Int) == 10) = false := by rw [beq_eq_false_iff_ne]; omega
            have HN10 : Hid (ch ≠ 10) := fun h => h10 (HCV.out.trans ((HE.out 10).1 h))
            clear h10
            by_cases h35 : cv = 35
            · have hb35 : ((cv : Int) == 35) = true := by rw [h35]; rfl
              obtain ⟨E, hE⟩ : ∃ E, E = scan notNl s i := ⟨_, rfl⟩
              have hEn : E ≤ n := by rw [hE, HN.out]; exact scan_le _ _ (by rw [← HN.out]; exact hin)
              have hEi : i ≤ E := by rw [hE]; exact scan_ge _ _ _
              have HR2 : Hid (allL s E l = R) := by rw [← HSTEP.out, hE]; exact (all_remark HCH.out ((HE.out 35).2 (HCV.out.symm.trans h35)) l).symm
              have hEi1 : i + 1 ≤ E := by
                have hks : i < s.length := by rw [← HN.out]; exact hlt
                have hci : s[i] = ch := by have h := HCH.out; rw [List.getElem?_eq_getElem hks] at h; injection h
                rw [hE, scan_step notNl s hks (by rw [hci, (HE.out 35).2 (HCV.out.symm.trans h35)]; rfl)]; exact scan_ge _ _ _
              have HEE := Lib.hid hE
              clear hE h35
              go_wp2_with fail
              refine wp_scope_forward 1 rfl ?_
              go_wp2_with fail
              go_loopw [5] (fun s5 wr => wr = wo.alloc (.cells #[.int .u8 0, .string ⟨#[]⟩, .int .i64 0, .int .i64 (i : Nat)] 56) ∧ ∃ k : Nat, s5 = .int .i64 k ∧ i ≤ k ∧ k ≤ E ∧ scan notNl s k = E) (fun s5 _ => n - (intOf s5).toNat)
              case atStart => exact ⟨rfl, i, rfl, Nat.le_refl _, hEi, HEE.out.symm⟩
              case round =>
                obtain ⟨rfl, k, rfl, hik, hkE0, hsc⟩ := hrel
                have HX := Lib.hid hsc
                clear hsc
                by_cases hkn : k < n
                · have hks1 : k < s.length := by rw [← HN.out]; omega
                  obtain ⟨c1, hc1⟩ : ∃ c, c = s[k] := ⟨_, rfl⟩
                  have hist1 : k < st.size := by omega
                  have hg1 : st[k] = c1 := by rw [hc1]; exact st_get HST.out hist1 hks1
                  have HSP : Hid (notNl c1 = false → E = k) := fun hd => by rw [← HX.out]; exact scan_stop _ _ hks1 (by rw [← hc1]; exact hd)
                  have HST2 : Hid (notNl c1 = true → scan notNl s (k + 1) = E) := fun hd => by rw [← HX.out]; exact (scan_step _ _ hks1 (by rw [← hc1]; exact hd)).symm
                  clear hc1 hks1
                  have HE1 : Hid (c1 = 10 ↔ c1.toNat = 10) := ⟨fun h => by rw [h]; rfl, fun h => UInt8.toNat_inj.1 h⟩
                  have hcl1 : c1.toNat < 256 := UInt8.toNat_lt _
                  obtain ⟨dv, hdv⟩ : ∃ v, v = c1.toNat := ⟨_, rfl⟩
                  have hgd : st[k].toNat = dv := by rw [hg1, hdv]
                  rw [← hdv] at HE1 hcl1
                  clear hg1 hdv
                  by_cases hnl : dv = 10
                  · have hkE : E = k := HSP.out (by unfold notNl; rw [HE1.out.2 hnl]; rfl)
                    have hd4 : ((dv : Int) != 10) = false := by rw [hnl]; rfl
                    clear hnl
                    go_wp2_with fail
                    simp only [Exit.jump]
                    go_wp2_with fail
                    go_roundw
                    case rel => exact ⟨k, l, A, cap, rfl, by rw [HM.out], by omega, by rw [← HM.out]; omega, by rw [← hkE]; exact HR2.out, by rw [← HM.out]; exact HO.out.alloc _, HB.out.alloc HB.out.size _⟩
                    case measure => simp [intOf]; omega
                  · have HS := Lib.hid (HST2.out (by unfold notNl; simp only [ne_eq, decide_not, Bool.not_eq_true', decide_eq_false_iff_not]; exact fun h => hnl (HE1.out.1 h)))
                    have hkE3 : k + 1 ≤ E := by rw [← HS.out]; exact scan_ge _ _ _
                    have hd4 : ((dv : Int) != 10) = true := by rw [bne_iff_ne]; omega
                    clear hnl
                    go_wp2_with fail
                    go_roundw
                    case rel => exact ⟨trivial, k + 1, by go_num, by omega, hkE3, HS.out⟩
                    case measure => simp [intOf]; omega
                · have hkE : E = k := by omega
                  go_wp2_with fail
                  simp only [Exit.jump]
                  go_wp2_with fail
                  go_roundw
                  case rel => exact ⟨k, l, A, cap, rfl, by rw [HM.out], by omega, by rw [← HM.out]; omega, by rw [← hkE]; exact HR2.out, by rw [← HM.out]; exact HO.out.alloc _, HB.out.alloc HB.out.size _⟩
                  case measure => simp [intOf]; omega
            · have hb35 : ((cv : Int) == 35) = false := by rw [beq_eq_false_iff_ne]; omega
              have HN35 : Hid (ch ≠ 35) := fun h => h35 (HCV.out.trans ((HE.out 35).1 h))
              clear h35
              cases hle : lowB ch
              · have HLE2 := Lib.hid hle
                cases hdi : digB ch
                · have HDI2 := Lib.hid hdi
                  by_cases h34 : cv = 34
                  · have hb34 : ((cv : Int) == 34) = true := by rw [h34]; rfl
                    have H34 : Hid (ch = 34) := (HE.out 34).2 (HCV.out.symm.trans h34)
                    clear h34
                    rcases text_cases s i (by rw [← HN.out]; exact hs) (by rw [← HN.out]; exact hlt) with ⟨tb, te, tq, htt, htx⟩ | ⟨tb, te, tq, ter, hter, htt, htx⟩
                    · have HTX := Lib.hid htx
                      clear htx
                      have HR2 := Lib.hid ((all_tok HCH.out HN32.out HN10.out HN35.out (show oneL s i ch = .inr (⟨3, tb, 0, i⟩, te) by unfold oneL; rw [HLE2.out, HDI2.out]; simp only [Bool.false_eq_true, if_false]; rw [if_pos H34.out]; exact htt) l).symm.trans HSTEP.out)
                      have hnx := oneL_next HCH.out (show oneL s i ch = .inr (⟨3, tb, 0, i⟩, te) by unfold oneL; rw [HLE2.out, HDI2.out]; simp only [Bool.false_eq_true, if_false]; rw [if_pos H34.out]; exact htt)
                      rw [← HN.out] at hnx
                      obtain ⟨hnx1, hnx2⟩ := hnx
                      rw [← HST.out] at HTX
                      clear htt
                      go_wp2_with fail
                      refine wp_scope_forward 1 rfl ?_
                      go_wp2_with fail
                      refine (HLE.out _).mono ?_
                      rintro e w2 ⟨rfl, hw2⟩
                      rw [hw2, hle]
                      clear hw2 w2
                      go_wp2_with fail
                      refine (HDI.out _).mono ?_
                      rintro e w2 ⟨rfl, hw2⟩
                      rw [hw2, hdi]
                      clear hw2 w2
                      go_wp2_with fail
                      refine (HTX.out _).mono ?_
                      rintro e w2 ⟨rfl, hb2⟩
                      have HB2 := Lib.hid hb2
                      have HT : Hid (Blk w2 wo.heap.size 56 #[.int .u8 3, .string ⟨#[]⟩, .int .i64 0, .int .i64 (i : Nat)]) := Blk.below (Blk.new wo 56 _) hb2 (by simp)
                      have hz2 : wo.heap.size < w2.heap.size := HT.out.lt
                      have HBW := Lib.hid ((HB.out.alloc HB.out.size _).trans (hb2.mono (by have := HB.out.size; simp; omega)))
                      have HO2 := Lib.hid (own_below (HO.out.alloc _) hb2)
                      have HFAR : Hid ((Value.slice A m cap).ownBlock ≠ some wo.heap.size) := fun h => absurd (World.ownsRow.lt HO.out _ h).2 (Nat.lt_irrefl _)
                      clear hb2
                      have hcell : w2.cell? ⟨wo.heap.size, 1, none⟩ = some (.string ⟨#[]⟩) := HT.out.cell 1
                      have hfro : w2.frozen? ⟨wo.heap.size, 1, none⟩ = false := HT.out.frozen 1
                      have HT2 : Hid (Blk (w2.setCell ⟨wo.heap.size, 1, none⟩ (.string ⟨tb.toArray⟩)) wo.heap.size 56 #[.int .u8 3, .string ⟨tb.toArray⟩, .int .i64 0, .int .i64 (i : Nat)]) := HT.out.set_ 1 _
                      have HY : ∀ o, ((w2.setCell ⟨wo.heap.size, 1, none⟩ (.string ⟨tb.toArray⟩)).alloc o).heap[w2.heap.size]? = some o := fun o => by have h := heap_alloc_new (w2.setCell ⟨wo.heap.size, 1, none⟩ (.string ⟨tb.toArray⟩)) o; rwa [show (w2.setCell ⟨wo.heap.size, 1, none⟩ (.string ⟨tb.toArray⟩)).heap.size = w2.heap.size by simp [World.setCell]] at h
                      have HY2 := Lib.hid HY
                      clear HY
                      have HO3 := Lib.hid (ownsRow_setCell_other HO2.out (a := ⟨wo.heap.size, 1, none⟩) HFAR.out (.string ⟨tb.toArray⟩))
                      have HBS := Lib.hid (HBW.out.setCell (p := ⟨wo.heap.size, 1, none⟩) HB.out.size (.string ⟨tb.toArray⟩))
                      go_wp2_with fail
                      go_step3
                      go_wp2_with fail
                      refine ⟨rfl, ?_⟩
                      go_wp2_with (first | (refine wpList_load_row rfl 56 _ rfl wo.heap.size rfl 56 _ (0, 0) _ HT2.out Tryz.underlying56 rfl (by kernel_rfl) ?_) | (at_builtin; refine wpList_app_tok rfl (.tmp 155) (.tmp 157) rfl w.heap.size w2.heap.size m A cap l ⟨3, tb, 0, i⟩ rfl (HO3.out.alloc _) rfl (HY2.out _) (by omega) (by have := HBW.out.size; simp; omega) ?_; intro A3 c3 w3 ho3 hg3; have HO4 := Lib.hid ho3; have HG3 := Lib.hid hg3; clear ho3 hg3))
                      go_wp2_with fail
                      simp only [Exit.jump]
                      go_wp2_with fail
                      go_roundw
                      case rel => exact ⟨te, l ++ [⟨3, tb, 0, i⟩], A3, c3, by go_num, by rw [List.length_append, ← HM.out]; rfl, by omega, by rw [List.length_append, ← HM.out]; simp; omega, HR2.out, by rw [List.length_append, ← HM.out]; exact HO4.out, (HBS.out.alloc (by have := HBW.out.size; simp; omega) _).grown HG3.out (by have := HBW.out.size; simp; omega) (fun g hg => (World.ownsRow.lt HO.out g hg).1)⟩
                      case measure => simp [intOf]; omega
                    · have HTX := Lib.hid htx
                      clear htx
                      have HR : Hid (R = ([], tq, ter)) := by
                        rw [← HSTEP.out]
                        refine all_bad HCH.out HN32.out HN10.out HN35.out ?_ l
                        unfold oneL; rw [HLE2.out, HDI2.out]; simp only [Bool.false_eq_true, if_false]; rw [if_pos H34.out]; exact htt
                      have hbe : ((ter : Int) != 0) = true := by rw [bne_iff_ne]; omega
                      rw [← HST.out] at HTX
                      clear htt hter
                      go_wp2_with fail
                      refine wp_scope_forward 1 rfl ?_
                      go_wp2_with fail
                      refine (HLE.out _).mono ?_
                      rintro e w2 ⟨rfl, hw2⟩
                      rw [hw2, hle]
                      clear hw2 w2
                      go_wp2_with fail
                      refine (HDI.out _).mono ?_
                      rintro e w2 ⟨rfl, hw2⟩
                      rw [hw2, hdi]
                      clear hw2 w2
                      go_wp2_with fail
                      refine (HTX.out _).mono ?_
                      rintro e w2 ⟨rfl, hb2⟩
                      have HT : Hid (Blk w2 wo.heap.size 56 #[.int .u8 3, .string ⟨#[]⟩, .int .i64 0, .int .i64 (i : Nat)]) := Blk.below (Blk.new wo 56 _) hb2 (by simp)
                      have hz2 : wo.heap.size < w2.heap.size := HT.out.lt
                      have HBW := Lib.hid ((HB.out.alloc HB.out.size _).trans (hb2.mono (by have := HB.out.size; simp; omega)))
                      clear hb2
                      have hcell : w2.cell? ⟨wo.heap.size, 1, none⟩ = some (.string ⟨#[]⟩) := HT.out.cell 1
                      have hfro : w2.frozen? ⟨wo.heap.size, 1, none⟩ = false := HT.out.frozen 1
                      go_wp2_with fail
                      simp only [Exit.jump]
                      go_wp2_with fail
                      rw [Exit.noGoto_ret]
                      go_ret3
                      exact ⟨none, 0, by rw [HR.out]; rfl, by rw [HR.out]; exact World.ownsRow_nil _ _ _ _, HBW.out.setCell HB.out.size _⟩
                  · have hb34 : ((cv : Int) == 34) = false := by rw [beq_eq_false_iff_ne]; omega
                    have HN34 : Hid (ch ≠ 34) := fun h => h34 (HCV.out.trans ((HE.out 34).1 h))
                    clear h34
                    obtain ⟨z1, hz1⟩ : ∃ z : Int, z = Lib.indexByte signs ch := ⟨_, rfl⟩
                    obtain ⟨z2, hz2⟩ : ∃ z : Int, z = Lib.indexByte sg2 ch := ⟨_, rfl⟩
                    have HZ1 := Lib.hid (sg1_idx ch)
                    have HZ2 := Lib.hid (sg2_idx ch)
                    rw [← hz1] at HS1 HZ1
                    rw [← hz2] at HS2 HZ2
                    clear hz1 hz2
                    by_cases h33 : cv = 33
                    · have hb33 : ((cv : Int) == 33) = true := by rw [h33]; rfl
                      have H33 : Hid (ch = 33) := (HE.out 33).2 (HCV.out.symm.trans h33)
                      clear h33
                      by_cases hend : n = i + 1
                      · have HR : Hid (R = ([], i + 1, 4)) := by
                          rw [← HSTEP.out]
                          refine all_bad HCH.out HN32.out HN10.out HN35.out ?_ l
                          unfold oneL; rw [HLE2.out, HDI2.out]; simp only [Bool.false_eq_true, if_false]; rw [if_neg HN34.out]
                          unfold signL; rw [if_pos ⟨H33.out, by rw [← HN.out]; omega⟩]
                        have hd3 : ((i : Int) + 1 == (n : Int)) = true := by rw [beq_iff_eq]; omega
                        clear hend
                        go_wp2_with fail
                        refine wp_scope_forward 1 rfl ?_
                        go_wp2_with fail
                        refine (HLE.out _).mono ?_
                        rintro e w2 ⟨rfl, hw2⟩
                        rw [hw2, hle]
                        clear hw2 w2
                        go_wp2_with fail
                        refine (HDI.out _).mono ?_
                        rintro e w2 ⟨rfl, hw2⟩
                        rw [hw2, hdi]
                        clear hw2 w2
                        go_wp2_with fail
                        simp only [Exit.jump]
                        go_wp2_with fail
                        rw [Exit.noGoto_ret]
                        go_ret3
                        exact ⟨none, 0, by rw [HR.out]; rfl, by rw [HR.out]; exact World.ownsRow_nil _ _ _ _, HB.out.alloc HB.out.size _⟩
                      · have hlt1 : i + 1 < n := by omega
                        have hd3 : ((i : Int) + 1 == (n : Int)) = false := by rw [beq_eq_false_iff_ne]; omega
                        clear hend
                        have hks1 : i + 1 < s.length := by rw [← HN.out]; omega
                        obtain ⟨c1, hc1⟩ : ∃ c, c = s[i + 1] := ⟨_, rfl⟩
                        have hist1 : i + 1 < st.size := by omega
                        have hg1 : st[i + 1] = c1 := by rw [hc1]; exact st_get HST.out hist1 hks1
                        have HC1 : Hid (s[i + 1]? = some c1) := by rw [hc1]; exact List.getElem?_eq_getElem hks1
                        have HE1 : Hid (c1 = 61 ↔ c1.toNat = 61) := ⟨fun h => by rw [h]; rfl, fun h => UInt8.toNat_inj.1 h⟩
                        have hcl1 : c1.toNat < 256 := UInt8.toNat_lt _
                        obtain ⟨dv, hdv⟩ : ∃ v, v = c1.toNat := ⟨_, rfl⟩
                        have hgd : st[i + 1].toNat = dv := by rw [hg1, hdv]
                        rw [← hdv] at HE1 hcl1
                        clear hc1 hks1 hg1 hdv
                        by_cases h61 : dv = 61
                        · have hd4 : ((dv : Int) != 61) = false := by rw [h61]; rfl
                          have hd5 : ((dv : Int) == 61) = true := by rw [h61]; rfl
                          have HR2 : Hid (allL s (i + 2) (l ++ [⟨4, cutL s i (i + 2), 0, i⟩]) = R) := by
                            rw [← HSTEP.out]
                            refine (all_tok HCH.out HN32.out HN10.out HN35.out ?_ l).symm
                            unfold oneL; rw [HLE2.out, HDI2.out]; simp only [Bool.false_eq_true, if_false]; rw [if_neg HN34.out]
                            unfold signL; rw [if_neg (fun h => by have h2 := h.2; rw [← HN.out] at h2; omega), if_neg (fun h => h.2 (by rw [HC1.out, HE1.out.2 h61])), if_pos (by rw [H33.out]; decide), if_pos ⟨.inr (.inr H33.out), by rw [HC1.out, HE1.out.2 h61]⟩]
                          have hd1 : decide (z1 < 0) = false := decide_eq_false (fun h => (HZ1.out.1 h) (by rw [H33.out]; decide))
                          have hd2 : decide (0 ≤ z2) = true := decide_eq_true (HZ2.out.2 (.inr (.inr H33.out)))
                          clear h61
                          have hi1 : (i + 2) ≤ n := by omega
                          have hsl := fun W => run_slice_string (P := Tryz.prog) (w := W) 9 st .i64 .i64 (i : Nat) (((i + 2) : Nat) : Int) Tryz.underlying9 (by omega) (by omega) (by omega)
                          simp only [Int.toNat_natCast] at hsl
                          have hex : st.extract i (i + 2) = ⟨(cutL s i (i + 2)).toArray⟩ := by rw [HST.out]; exact ext_cut s i (i + 2)
                          rw [hex] at hsl
                          have hci : (((i + 2) : Nat) : Int) = (i : Int) + 1 + 1 := by omega
                          rw [hci] at hsl
                          clear hci
                          clear hex
                          go_wp2_with fail
                          refine wp_scope_forward 1 rfl ?_
                          go_wp2_with fail
                          refine (HLE.out _).mono ?_
                          rintro e w2 ⟨rfl, hw2⟩
                          rw [hw2, hle]
                          clear hw2 w2
                          go_wp2_with fail
                          refine (HDI.out _).mono ?_
                          rintro e w2 ⟨rfl, hw2⟩
                          rw [hw2, hdi]
                          clear hw2 w2
                          go_wp2_with fail
                          refine (HS1.out _).mono ?_
                          rintro e w2 ⟨rfl, hw2⟩
                          rw [hw2]
                          clear hw2 w2
                          go_wp2_with fail
                          refine (HS2.out _).mono ?_
                          rintro e w2 ⟨rfl, hw2⟩
                          rw [hw2]
                          clear hw2 w2
                          go_wp2_with fail
                          go_region
                          go_wp2_with fail
                          go_step3
                          go_wp2_with (at_builtin; refine wpList_app_tok rfl (.tmp 155) (.tmp 157) rfl w.heap.size (wo.heap.size + 1) m A cap l ⟨4, cutL s i (i + 2), 0, i⟩ rfl ((HO.out.alloc _).alloc _) rfl (new2 wo _ _) (by omega) (by have := HB.out.size; simp; omega) ?_; intro A3 c3 w3 ho3 hg3; have HO3 := Lib.hid ho3; have HG3 := Lib.hid hg3; clear ho3 hg3)
                          go_wp2_with fail
                          simp only [Exit.jump]
                          go_wp2_with fail
                          go_roundw
                          case rel => exact ⟨(i + 2), l ++ [⟨4, cutL s i (i + 2), 0, i⟩], A3, c3, by go_num, by rw [List.length_append, ← HM.out]; rfl, by omega, by rw [List.length_append, ← HM.out]; simp; omega, HR2.out, by rw [List.length_append, ← HM.out]; exact HO3.out, ((HB.out.alloc HB.out.size _).alloc (by have := HB.out.size; simp; omega) _).drew.grown HG3.out (by have := HB.out.size; simp; omega) (fun g hg => (World.ownsRow.lt HO.out g hg).1)⟩
                          case measure => simp [intOf]; omega
                        · have hd4 : ((dv : Int) != 61) = true := by rw [bne_iff_ne]; omega
                          have HR : Hid (R = ([], i + 1, 9)) := by
                            rw [← HSTEP.out]
                            refine all_bad HCH.out HN32.out HN10.out HN35.out ?_ l
                            unfold oneL; rw [HLE2.out, HDI2.out]; simp only [Bool.false_eq_true, if_false]; rw [if_neg HN34.out]
                            unfold signL; rw [if_neg (fun h => by have h2 := h.2; rw [← HN.out] at h2; omega), if_pos ⟨H33.out, fun h => by rw [HC1.out] at h; injection h with h; exact h61 (HE1.out.1 h)⟩]
                          clear h61
                          go_wp2_with fail
                          refine wp_scope_forward 1 rfl ?_
                          go_wp2_with fail
                          refine (HLE.out _).mono ?_
                          rintro e w2 ⟨rfl, hw2⟩
                          rw [hw2, hle]
                          clear hw2 w2
                          go_wp2_with fail
                          refine (HDI.out _).mono ?_
                          rintro e w2 ⟨rfl, hw2⟩
                          rw [hw2, hdi]
                          clear hw2 w2
                          go_wp2_with fail
                          simp only [Exit.jump]
                          go_wp2_with fail
                          rw [Exit.noGoto_ret]
                          go_ret3
                          exact ⟨none, 0, by rw [HR.out]; rfl, by rw [HR.out]; exact World.ownsRow_nil _ _ _ _, HB.out.alloc HB.out.size _⟩
                    · have hb33 : ((cv : Int) == 33) = false := by rw [beq_eq_false_iff_ne]; omega
                      have HN33 : Hid (ch ≠ 33) := fun h => h33 (HCV.out.trans ((HE.out 33).1 h))
                      clear h33
                      by_cases hz1 : z1 < 0
                      · have HR : Hid (R = ([], i, 9)) := by
                          rw [← HSTEP.out]
                          refine all_bad HCH.out HN32.out HN10.out HN35.out ?_ l
                          unfold oneL; rw [HLE2.out, HDI2.out]; simp only [Bool.false_eq_true, if_false]; rw [if_neg HN34.out]
                          unfold signL; rw [if_neg (fun h => HN33.out h.1), if_neg (fun h => HN33.out h.1), if_neg (HZ1.out.1 hz1)]
                        have hd1 : decide (z1 < 0) = true := decide_eq_true hz1
                        clear hz1
                        go_wp2_with fail
                        refine wp_scope_forward 1 rfl ?_
                        go_wp2_with fail
                        refine (HLE.out _).mono ?_
                        rintro e w2 ⟨rfl, hw2⟩
                        rw [hw2, hle]
                        clear hw2 w2
                        go_wp2_with fail
                        refine (HDI.out _).mono ?_
                        rintro e w2 ⟨rfl, hw2⟩
                        rw [hw2, hdi]
                        clear hw2 w2
                        go_wp2_with fail
                        refine (HS1.out _).mono ?_
                        rintro e w2 ⟨rfl, hw2⟩
                        rw [hw2]
                        clear hw2 w2
                        go_wp2_with fail
                        simp only [Exit.jump]
                        go_wp2_with fail
                        rw [Exit.noGoto_ret]
                        go_ret3
                        exact ⟨none, 0, by rw [HR.out]; rfl, by rw [HR.out]; exact World.ownsRow_nil _ _ _ _, HB.out.alloc HB.out.size _⟩
                      · have hd1 : decide (z1 < 0) = false := decide_eq_false hz1
                        have HSG : Hid (ch ∈ signs) := (Decidable.not_not (p := ch ∈ signs)).1 (fun h => hz1 (HZ1.out.2 h))
                        clear hz1
                        by_cases hz2 : 0 ≤ z2
                        · have HZ3 := Lib.hid (HZ2.out.1 hz2)
                          have hd2 : decide (0 ≤ z2) = true := decide_eq_true hz2
                          clear hz2
                          by_cases hend : n ≤ i + 1
                          · have hd3 : decide ((i : Int) + 1 < (n : Int)) = false := decide_eq_false (by omega)
                            have HR2 : Hid (allL s (i + 1) (l ++ [⟨4, cutL s i (i + 1), 0, i⟩]) = R) := by
                              rw [← HSTEP.out]
                              refine (all_tok HCH.out HN32.out HN10.out HN35.out ?_ l).symm
                              unfold oneL; rw [HLE2.out, HDI2.out]; simp only [Bool.false_eq_true, if_false]; rw [if_neg HN34.out]
                              unfold signL; rw [if_neg (fun h => HN33.out h.1), if_neg (fun h => HN33.out h.1), if_pos HSG.out, if_neg (fun h => by rw [List.getElem?_eq_none (by rw [← HN.out]; omega)] at h; cases h.2)]
                            clear hend
                            have hi1 : (i + 1) ≤ n := by omega
                            have hsl := fun W => run_slice_string (P := Tryz.prog) (w := W) 9 st .i64 .i64 (i : Nat) (((i + 1) : Nat) : Int) Tryz.underlying9 (by omega) (by omega) (by omega)
                            simp only [Int.toNat_natCast] at hsl
                            have hex : st.extract i (i + 1) = ⟨(cutL s i (i + 1)).toArray⟩ := by rw [HST.out]; exact ext_cut s i (i + 1)
                            rw [hex] at hsl
                            have hci : (((i + 1) : Nat) : Int) = (i : Int) + 1 := by omega
                            rw [hci] at hsl
                            clear hci
                            clear hex
                            go_wp2_with fail
                            refine wp_scope_forward 1 rfl ?_
                            go_wp2_with fail
                            refine (HLE.out _).mono ?_
                            rintro e w2 ⟨rfl, hw2⟩
                            rw [hw2, hle]
                            clear hw2 w2
                            go_wp2_with fail
                            refine (HDI.out _).mono ?_
                            rintro e w2 ⟨rfl, hw2⟩
                            rw [hw2, hdi]
                            clear hw2 w2
                            go_wp2_with fail
                            refine (HS1.out _).mono ?_
                            rintro e w2 ⟨rfl, hw2⟩
                            rw [hw2]
                            clear hw2 w2
                            go_wp2_with fail
                            refine (HS2.out _).mono ?_
                            rintro e w2 ⟨rfl, hw2⟩
                            rw [hw2]
                            clear hw2 w2
                            go_wp2_with fail
                            go_region
                            go_wp2_with fail
                            go_step3
                            go_wp2_with (at_builtin; refine wpList_app_tok rfl (.tmp 155) (.tmp 157) rfl w.heap.size (wo.heap.size + 1) m A cap l ⟨4, cutL s i (i + 1), 0, i⟩ rfl ((HO.out.alloc _).alloc _) rfl (new2 wo _ _) (by omega) (by have := HB.out.size; simp; omega) ?_; intro A3 c3 w3 ho3 hg3; have HO3 := Lib.hid ho3; have HG3 := Lib.hid hg3; clear ho3 hg3)
                            go_wp2_with fail
                            simp only [Exit.jump]
                            go_wp2_with fail
                            go_roundw
                            case rel => exact ⟨(i + 1), l ++ [⟨4, cutL s i (i + 1), 0, i⟩], A3, c3, by go_num, by rw [List.length_append, ← HM.out]; rfl, by omega, by rw [List.length_append, ← HM.out]; simp; omega, HR2.out, by rw [List.length_append, ← HM.out]; exact HO3.out, ((HB.out.alloc HB.out.size _).alloc (by have := HB.out.size; simp; omega) _).drew.grown HG3.out (by have := HB.out.size; simp; omega) (fun g hg => (World.ownsRow.lt HO.out g hg).1)⟩
                            case measure => simp [intOf]; omega
                          · have hlt1 : i + 1 < n := by omega
                            clear hend
                            have hks1 : i + 1 < s.length := by rw [← HN.out]; omega
                            obtain ⟨c1, hc1⟩ : ∃ c, c = s[i + 1] := ⟨_, rfl⟩
                            have hist1 : i + 1 < st.size := by omega
                            have hg1 : st[i + 1] = c1 := by rw [hc1]; exact st_get HST.out hist1 hks1
                            have HC1 : Hid (s[i + 1]? = some c1) := by rw [hc1]; exact List.getElem?_eq_getElem hks1
                            have HE1 : Hid (c1 = 61 ↔ c1.toNat = 61) := ⟨fun h => by rw [h]; rfl, fun h => UInt8.toNat_inj.1 h⟩
                            have hcl1 : c1.toNat < 256 := UInt8.toNat_lt _
                            obtain ⟨dv, hdv⟩ : ∃ v, v = c1.toNat := ⟨_, rfl⟩
                            have hgd : st[i + 1].toNat = dv := by rw [hg1, hdv]
                            rw [← hdv] at HE1 hcl1
                            clear hc1 hks1 hg1 hdv
                            by_cases h61 : dv = 61
                            · have hd4 : ((dv : Int) == 61) = true := by rw [h61]; rfl
                              have HR2 : Hid (allL s (i + 2) (l ++ [⟨4, cutL s i (i + 2), 0, i⟩]) = R) := by
                                rw [← HSTEP.out]
                                refine (all_tok HCH.out HN32.out HN10.out HN35.out ?_ l).symm
                                unfold oneL; rw [HLE2.out, HDI2.out]; simp only [Bool.false_eq_true, if_false]; rw [if_neg HN34.out]
                                unfold signL; rw [if_neg (fun h => HN33.out h.1), if_neg (fun h => HN33.out h.1), if_pos HSG.out, if_pos ⟨HZ3.out, by rw [HC1.out, HE1.out.2 h61]⟩]
                              clear h61
                              have hi1 : (i + 2) ≤ n := by omega
                              have hsl := fun W => run_slice_string (P := Tryz.prog) (w := W) 9 st .i64 .i64 (i : Nat) (((i + 2) : Nat) : Int) Tryz.underlying9 (by omega) (by omega) (by omega)
                              simp only [Int.toNat_natCast] at hsl
                              have hex : st.extract i (i + 2) = ⟨(cutL s i (i + 2)).toArray⟩ := by rw [HST.out]; exact ext_cut s i (i + 2)
                              rw [hex] at hsl
                              have hci : (((i + 2) : Nat) : Int) = (i : Int) + 1 + 1 := by omega
                              rw [hci] at hsl
                              clear hci
                              clear hex
                              go_wp2_with fail
                              refine wp_scope_forward 1 rfl ?_
                              go_wp2_with fail
                              refine (HLE.out _).mono ?_
                              rintro e w2 ⟨rfl, hw2⟩
                              rw [hw2, hle]
                              clear hw2 w2
                              go_wp2_with fail
                              refine (HDI.out _).mono ?_
                              rintro e w2 ⟨rfl, hw2⟩
                              rw [hw2, hdi]
                              clear hw2 w2
                              go_wp2_with fail
                              refine (HS1.out _).mono ?_
                              rintro e w2 ⟨rfl, hw2⟩
                              rw [hw2]
                              clear hw2 w2
                              go_wp2_with fail
                              refine (HS2.out _).mono ?_
                              rintro e w2 ⟨rfl, hw2⟩
                              rw [hw2]
                              clear hw2 w2
                              go_wp2_with fail
                              go_region
                              go_wp2_with fail
                              go_step3
                              go_wp2_with (at_builtin; refine wpList_app_tok rfl (.tmp 155) (.tmp 157) rfl w.heap.size (wo.heap.size + 1) m A cap l ⟨4, cutL s i (i + 2), 0, i⟩ rfl ((HO.out.alloc _).alloc _) rfl (new2 wo _ _) (by omega) (by have := HB.out.size; simp; omega) ?_; intro A3 c3 w3 ho3 hg3; have HO3 := Lib.hid ho3; have HG3 := Lib.hid hg3; clear ho3 hg3)
                              go_wp2_with fail
                              simp only [Exit.jump]
                              go_wp2_with fail
                              go_roundw
                              case rel => exact ⟨(i + 2), l ++ [⟨4, cutL s i (i + 2), 0, i⟩], A3, c3, by go_num, by rw [List.length_append, ← HM.out]; rfl, by omega, by rw [List.length_append, ← HM.out]; simp; omega, HR2.out, by rw [List.length_append, ← HM.out]; exact HO3.out, ((HB.out.alloc HB.out.size _).alloc (by have := HB.out.size; simp; omega) _).drew.grown HG3.out (by have := HB.out.size; simp; omega) (fun g hg => (World.ownsRow.lt HO.out g hg).1)⟩
                              case measure => simp [intOf]; omega
                            · have hd4 : ((dv : Int) == 61) = false := by rw [beq_eq_false_iff_ne]; omega
                              have HR2 : Hid (allL s (i + 1) (l ++ [⟨4, cutL s i (i + 1), 0, i⟩]) = R) := by
                                rw [← HSTEP.out]
                                refine (all_tok HCH.out HN32.out HN10.out HN35.out ?_ l).symm
                                unfold oneL; rw [HLE2.out, HDI2.out]; simp only [Bool.false_eq_true, if_false]; rw [if_neg HN34.out]
                                unfold signL; rw [if_neg (fun h => HN33.out h.1), if_neg (fun h => HN33.out h.1), if_pos HSG.out, if_neg (fun h => by have h2 := h.2; rw [HC1.out] at h2; injection h2 with h2; exact h61 (HE1.out.1 h2))]
                              clear h61
                              have hi1 : (i + 1) ≤ n := by omega
                              have hsl := fun W => run_slice_string (P := Tryz.prog) (w := W) 9 st .i64 .i64 (i : Nat) (((i + 1) : Nat) : Int) Tryz.underlying9 (by omega) (by omega) (by omega)
                              simp only [Int.toNat_natCast] at hsl
                              have hex : st.extract i (i + 1) = ⟨(cutL s i (i + 1)).toArray⟩ := by rw [HST.out]; exact ext_cut s i (i + 1)
                              rw [hex] at hsl
                              have hci : (((i + 1) : Nat) : Int) = (i : Int) + 1 := by omega
                              rw [hci] at hsl
                              clear hci
                              clear hex
                              go_wp2_with fail
                              refine wp_scope_forward 1 rfl ?_
                              go_wp2_with fail
                              refine (HLE.out _).mono ?_
                              rintro e w2 ⟨rfl, hw2⟩
                              rw [hw2, hle]
                              clear hw2 w2
                              go_wp2_with fail
                              refine (HDI.out _).mono ?_
                              rintro e w2 ⟨rfl, hw2⟩
                              rw [hw2, hdi]
                              clear hw2 w2
                              go_wp2_with fail
                              refine (HS1.out _).mono ?_
                              rintro e w2 ⟨rfl, hw2⟩
                              rw [hw2]
                              clear hw2 w2
                              go_wp2_with fail
                              refine (HS2.out _).mono ?_
                              rintro e w2 ⟨rfl, hw2⟩
                              rw [hw2]
                              clear hw2 w2
                              go_wp2_with fail
                              go_region
                              go_wp2_with fail
                              go_step3
                              go_wp2_with (at_builtin; refine wpList_app_tok rfl (.tmp 155) (.tmp 157) rfl w.heap.size (wo.heap.size + 1) m A cap l ⟨4, cutL s i (i + 1), 0, i⟩ rfl ((HO.out.alloc _).alloc _) rfl (new2 wo _ _) (by omega) (by have := HB.out.size; simp; omega) ?_; intro A3 c3 w3 ho3 hg3; have HO3 := Lib.hid ho3; have HG3 := Lib.hid hg3; clear ho3 hg3)
                              go_wp2_with fail
                              simp only [Exit.jump]
                              go_wp2_with fail
                              go_roundw
                              case rel => exact ⟨(i + 1), l ++ [⟨4, cutL s i (i + 1), 0, i⟩], A3, c3, by go_num, by rw [List.length_append, ← HM.out]; rfl, by omega, by rw [List.length_append, ← HM.out]; simp; omega, HR2.out, by rw [List.length_append, ← HM.out]; exact HO3.out, ((HB.out.alloc HB.out.size _).alloc (by have := HB.out.size; simp; omega) _).drew.grown HG3.out (by have := HB.out.size; simp; omega) (fun g hg => (World.ownsRow.lt HO.out g hg).1)⟩
                              case measure => simp [intOf]; omega
                        · have hd2 : decide (0 ≤ z2) = false := decide_eq_false hz2
                          have HR2 : Hid (allL s (i + 1) (l ++ [⟨4, cutL s i (i + 1), 0, i⟩]) = R) := by
                            rw [← HSTEP.out]
                            refine (all_tok HCH.out HN32.out HN10.out HN35.out ?_ l).symm
                            unfold oneL; rw [HLE2.out, HDI2.out]; simp only [Bool.false_eq_true, if_false]; rw [if_neg HN34.out]
                            unfold signL; rw [if_neg (fun h => HN33.out h.1), if_neg (fun h => HN33.out h.1), if_pos HSG.out, if_neg (fun h => hz2 (HZ2.out.2 h.1))]
                          clear hz2
                          have hi1 : (i + 1) ≤ n := by omega
                          have hsl := fun W => run_slice_string (P := Tryz.prog) (w := W) 9 st .i64 .i64 (i : Nat) (((i + 1) : Nat) : Int) Tryz.underlying9 (by omega) (by omega) (by omega)
                          simp only [Int.toNat_natCast] at hsl
                          have hex : st.extract i (i + 1) = ⟨(cutL s i (i + 1)).toArray⟩ := by rw [HST.out]; exact ext_cut s i (i + 1)
                          rw [hex] at hsl
                          have hci : (((i + 1) : Nat) : Int) = (i : Int) + 1 := by omega
                          rw [hci] at hsl
                          clear hci
                          clear hex
                          go_wp2_with fail
                          refine wp_scope_forward 1 rfl ?_
                          go_wp2_with fail
                          refine (HLE.out _).mono ?_
                          rintro e w2 ⟨rfl, hw2⟩
                          rw [hw2, hle]
                          clear hw2 w2
                          go_wp2_with fail
                          refine (HDI.out _).mono ?_
                          rintro e w2 ⟨rfl, hw2⟩
                          rw [hw2, hdi]
                          clear hw2 w2
                          go_wp2_with fail
                          refine (HS1.out _).mono ?_
                          rintro e w2 ⟨rfl, hw2⟩
                          rw [hw2]
                          clear hw2 w2
                          go_wp2_with fail
                          refine (HS2.out _).mono ?_
                          rintro e w2 ⟨rfl, hw2⟩
                          rw [hw2]
                          clear hw2 w2
                          go_wp2_with fail
                          go_region
                          go_wp2_with fail
                          go_step3
                          go_wp2_with (at_builtin; refine wpList_app_tok rfl (.tmp 155) (.tmp 157) rfl w.heap.size (wo.heap.size + 1) m A cap l ⟨4, cutL s i (i + 1), 0, i⟩ rfl ((HO.out.alloc _).alloc _) rfl (new2 wo _ _) (by omega) (by have := HB.out.size; simp; omega) ?_; intro A3 c3 w3 ho3 hg3; have HO3 := Lib.hid ho3; have HG3 := Lib.hid hg3; clear ho3 hg3)
                          go_wp2_with fail
                          simp only [Exit.jump]
                          go_wp2_with fail
                          go_roundw
                          case rel => exact ⟨(i + 1), l ++ [⟨4, cutL s i (i + 1), 0, i⟩], A3, c3, by go_num, by rw [List.length_append, ← HM.out]; rfl, by omega, by rw [List.length_append, ← HM.out]; simp; omega, HR2.out, by rw [List.length_append, ← HM.out]; exact HO3.out, ((HB.out.alloc HB.out.size _).alloc (by have := HB.out.size; simp; omega) _).drew.grown HG3.out (by have := HB.out.size; simp; omega) (fun g hg => (World.ownsRow.lt HO.out g hg).1)⟩
                          case measure => simp [intOf]; omega
                · have HDI2 := Lib.hid hdi
                  rcases num_cases s i (by rw [← HN.out]; exact hs) (by rw [← HN.out]; exact hin) with ⟨tx, te, tq, htt, htx⟩ | ⟨tx, te, tq, ter, hter, htt, htx⟩
                  · have HTX := Lib.hid htx
                    clear htx
                    have HR2 := Lib.hid ((all_tok HCH.out HN32.out HN10.out HN35.out (show oneL s i ch = .inr (⟨2, [], tx, i⟩, te) by unfold oneL; rw [HLE2.out, HDI2.out]; simp only [Bool.false_eq_true, if_false, if_true]; exact htt) l).symm.trans HSTEP.out)
                    have hnx := oneL_next HCH.out (show oneL s i ch = .inr (⟨2, [], tx, i⟩, te) by unfold oneL; rw [HLE2.out, HDI2.out]; simp only [Bool.false_eq_true, if_false, if_true]; exact htt)
                    rw [← HN.out] at hnx
                    obtain ⟨hnx1, hnx2⟩ := hnx
                    rw [← HST.out] at HTX
                    clear htt
                    go_wp2_with fail
                    refine wp_scope_forward 1 rfl ?_
                    go_wp2_with fail
                    refine (HLE.out _).mono ?_
                    rintro e w2 ⟨rfl, hw2⟩
                    rw [hw2, hle]
                    clear hw2 w2
                    go_wp2_with fail
                    refine (HDI.out _).mono ?_
                    rintro e w2 ⟨rfl, hw2⟩
                    rw [hw2, hdi]
                    clear hw2 w2
                    go_wp2_with fail
                    refine (HTX.out _).mono ?_
                    rintro e w2 ⟨rfl, hw2⟩
                    rw [hw2]
                    clear hw2 w2
                    go_wp2_with fail
                    go_step3
                    go_wp2_with fail
                    refine ⟨rfl, ?_⟩
                    go_wp2_with (at_builtin; refine wpList_app_tok rfl (.tmp 155) (.tmp 157) rfl w.heap.size (wo.heap.size + 1) m A cap l ⟨2, [], tx, i⟩ rfl ((HO.out.alloc _).alloc _) rfl (new2 wo _ _) (by omega) (by have := HB.out.size; simp; omega) ?_; intro A3 c3 w3 ho3 hg3; have HO3 := Lib.hid ho3; have HG3 := Lib.hid hg3; clear ho3 hg3)
                    go_wp2_with fail
                    simp only [Exit.jump]
                    go_wp2_with fail
                    go_roundw
                    case rel => exact ⟨te, l ++ [⟨2, [], tx, i⟩], A3, c3, by go_num, by rw [List.length_append, ← HM.out]; rfl, by omega, by rw [List.length_append, ← HM.out]; simp; omega, HR2.out, by rw [List.length_append, ← HM.out]; exact HO3.out, ((HB.out.alloc HB.out.size _).alloc (by have := HB.out.size; simp; omega) _).grown HG3.out (by have := HB.out.size; simp; omega) (fun g hg => (World.ownsRow.lt HO.out g hg).1)⟩
                    case measure => simp [intOf]; omega
                  · have HTX := Lib.hid htx
                    clear htx
                    have HR : Hid (R = ([], tq, ter)) := by
                      rw [← HSTEP.out]
                      refine all_bad HCH.out HN32.out HN10.out HN35.out ?_ l
                      unfold oneL; rw [HLE2.out, HDI2.out]; simp only [Bool.false_eq_true, if_false, if_true]; exact htt
                    have hbe : ((ter : Int) != 0) = true := by rw [bne_iff_ne]; omega
                    rw [← HST.out] at HTX
                    clear htt hter
                    go_wp2_with fail
                    refine wp_scope_forward 1 rfl ?_
                    go_wp2_with fail
                    refine (HLE.out _).mono ?_
                    rintro e w2 ⟨rfl, hw2⟩
                    rw [hw2, hle]
                    clear hw2 w2
                    go_wp2_with fail
                    refine (HDI.out _).mono ?_
                    rintro e w2 ⟨rfl, hw2⟩
                    rw [hw2, hdi]
                    clear hw2 w2
                    go_wp2_with fail
                    refine (HTX.out _).mono ?_
                    rintro e w2 ⟨rfl, hw2⟩
                    rw [hw2]
                    clear hw2 w2
                    go_wp2_with fail
                    simp only [Exit.jump]
                    go_wp2_with fail
                    rw [Exit.noGoto_ret]
                    go_ret3
                    exact ⟨none, 0, by rw [HR.out]; rfl, by rw [HR.out]; exact World.ownsRow_nil _ _ _ _, HB.out.alloc HB.out.size _⟩
              · have HLE2 := Lib.hid hle
                obtain ⟨E, hE⟩ : ∃ E, E = scan innB s i := ⟨_, rfl⟩
                have hEn : E ≤ n := by rw [hE, HN.out]; exact scan_le _ _ (by rw [← HN.out]; exact hin)
                have hi1E : scan innB s (i + 1) = E := by
                  have hks : i < s.length := by rw [← HN.out]; exact hlt
                  have hci : s[i] = ch := by have h := HCH.out; rw [List.getElem?_eq_getElem hks] at h; injection h
                  rw [hE]; exact (scan_step _ _ hks (by rw [hci]; unfold innB; rw [hle]; rfl)).symm
                have HEE := Lib.hid hE
                have HI1 := Lib.hid hi1E
                have hEi : i + 1 ≤ E := by rw [← hi1E]; exact scan_ge _ _ _
                clear hE hi1E
                go_wp2_with fail
                refine wp_scope_forward 1 rfl ?_
                go_wp2_with fail
                refine (HLE.out _).mono ?_
                rintro e w2 ⟨rfl, hw2⟩
                rw [hw2, hle]
                clear hw2 w2
                go_wp2_with fail
                go_loopw [8] (fun s8 wr => wr = wo.alloc (.cells #[.int .u8 0, .string ⟨#[]⟩, .int .i64 0, .int .i64 (i : Nat)] 56) ∧ ∃ k : Nat, s8 = .int .i64 k ∧ i + 1 ≤ k ∧ k ≤ E ∧ scan innB s k = E) (fun s8 _ => n - (intOf s8).toNat)
                case atStart => exact ⟨rfl, i + 1, by go_num, Nat.le_refl _, hEi, HI1.out⟩
                case round =>
                  obtain ⟨rfl, k, rfl, hik, hkE0, hsc⟩ := hrel
                  have HX := Lib.hid (And.intro hsc HEE.out)
                  clear hsc
                  by_cases hkn : k < n
                  · have hks1 : k < s.length := by rw [← HN.out]; omega
                    obtain ⟨c1, hc1⟩ : ∃ c, c = s[k] := ⟨_, rfl⟩
                    have hist1 : k < st.size := by omega
                    have hg1 : st[k] = c1 := by rw [hc1]; exact st_get HST.out hist1 hks1
                    have HSP : Hid (innB c1 = false → E = k) := fun hd => by rw [← HX.out.1]; exact scan_stop _ _ hks1 (by rw [← hc1]; exact hd)
                    have HST2 : Hid (innB c1 = true → scan innB s (k + 1) = E) := fun hd => by rw [← HX.out.1]; exact (scan_step _ _ hks1 (by rw [← hc1]; exact hd)).symm
                    clear hc1 hks1
                    have HIN := Lib.hid (fun W => inner_any c1 W)
                    have hcl1 : c1.toNat < 256 := UInt8.toNat_lt _
                    obtain ⟨dv, hdv⟩ : ∃ v, v = c1.toNat := ⟨_, rfl⟩
                    have hgd : st[k].toNat = dv := by rw [hg1, hdv]
                    rw [← hdv] at HIN hcl1
                    clear hg1 hdv
                    cases hinn : innB c1
                    · have hkE := HSP.out hinn
                      by_cases h24 : 24 < k - i
                      · have HR : Hid (R = ([], i, 2)) := by
                          rw [← HSTEP.out]
                          refine all_bad HCH.out HN32.out HN10.out HN35.out ?_ l
                          unfold oneL; rw [HLE2.out]; simp only [if_true]
                          unfold wordL; rw [← HX.out.2, hkE, if_pos h24]
                        have hd24 : decide ((24 : Int) < (k : Int) - (i : Int)) = true := decide_eq_true (by omega)
                        clear hkE h24
                        go_wp2_with fail
                        refine (HIN.out _).mono ?_
                        rintro e w2 ⟨rfl, hw2⟩
                        rw [hw2, hinn]
                        clear hw2 w2
                        go_wp2_with fail
                        simp only [Exit.jump]
                        go_wp2_with fail
                        rw [Exit.noGoto_ret]
                        go_ret3
                        exact ⟨none, 0, by rw [HR.out]; rfl, by rw [HR.out]; exact World.ownsRow_nil _ _ _ _, HB.out.alloc HB.out.size _⟩
                      · have HR2 : Hid (allL s k (l ++ [⟨1, cutL s i k, 0, i⟩]) = R) := by
                          rw [← HSTEP.out]
                          refine (all_tok HCH.out HN32.out HN10.out HN35.out ?_ l).symm
                          unfold oneL; rw [HLE2.out]; simp only [if_true]
                          unfold wordL; rw [← HX.out.2, hkE, if_neg h24]
                        have hd24 : decide ((24 : Int) < (k : Int) - (i : Int)) = false := decide_eq_false (by omega)
                        clear hkE h24
                        have hi1 : k ≤ n := by omega
                        have hsl := fun W => run_slice_string (P := Tryz.prog) (w := W) 9 st .i64 .i64 (i : Nat) ((k : Nat) : Int) Tryz.underlying9 (by omega) (by omega) (by omega)
                        simp only [Int.toNat_natCast] at hsl
                        have hex : st.extract i k = ⟨(cutL s i k).toArray⟩ := by rw [HST.out]; exact ext_cut s i k
                        rw [hex] at hsl
                        clear hex
                        go_wp2_with fail
                        refine (HIN.out _).mono ?_
                        rintro e w2 ⟨rfl, hw2⟩
                        rw [hw2, hinn]
                        clear hw2 w2
                        go_wp2_with fail
                        go_region
                        go_wp2_with fail
                        go_step3
                        go_wp2_with fail
                        refine ⟨rfl, ?_⟩
                        go_wp2_with (at_builtin; refine wpList_app_tok rfl (.tmp 155) (.tmp 157) rfl w.heap.size (wo.heap.size + 1) m A cap l ⟨1, cutL s i k, 0, i⟩ rfl ((HO.out.alloc _).alloc _) rfl (new2 wo _ _) (by omega) (by have := HB.out.size; simp; omega) ?_; intro A3 c3 w3 ho3 hg3; have HO3 := Lib.hid ho3; have HG3 := Lib.hid hg3; clear ho3 hg3)
                        go_wp2_with fail
                        simp only [Exit.jump]
                        go_wp2_with fail
                        go_roundw
                        case rel => exact ⟨k, l ++ [⟨1, cutL s i k, 0, i⟩], A3, c3, by go_num, by rw [List.length_append, ← HM.out]; rfl, by omega, by rw [List.length_append, ← HM.out]; simp; omega, HR2.out, by rw [List.length_append, ← HM.out]; exact HO3.out, ((HB.out.alloc HB.out.size _).alloc (by have := HB.out.size; simp; omega) _).drew.grown HG3.out (by have := HB.out.size; simp; omega) (fun g hg => (World.ownsRow.lt HO.out g hg).1)⟩
                        case measure => simp [intOf]; omega
                    · have HS := Lib.hid (HST2.out hinn)
                      have hkE3 : k + 1 ≤ E := by rw [← HS.out]; exact scan_ge _ _ _
                      go_wp2_with fail
                      refine (HIN.out _).mono ?_
                      rintro e w2 ⟨rfl, hw2⟩
                      rw [hw2, hinn]
                      clear hw2 w2
                      go_wp2_with fail
                      go_roundw
                      case rel => exact ⟨trivial, k + 1, by go_num, by omega, hkE3, HS.out⟩
                      case measure => simp [intOf]; omega
                  · have hkE : E = k := by omega
                    by_cases h24 : 24 < k - i
                    · have HR : Hid (R = ([], i, 2)) := by
                        rw [← HSTEP.out]
                        refine all_bad HCH.out HN32.out HN10.out HN35.out ?_ l
                        unfold oneL; rw [HLE2.out]; simp only [if_true]
                        unfold wordL; rw [← HX.out.2, hkE, if_pos h24]
                      have hd24 : decide ((24 : Int) < (k : Int) - (i : Int)) = true := decide_eq_true (by omega)
                      clear hkE h24
                      go_wp2_with fail
                      simp only [Exit.jump]
                      go_wp2_with fail
                      rw [Exit.noGoto_ret]
                      go_ret3
                      exact ⟨none, 0, by rw [HR.out]; rfl, by rw [HR.out]; exact World.ownsRow_nil _ _ _ _, HB.out.alloc HB.out.size _⟩
                    · have HR2 : Hid (allL s k (l ++ [⟨1, cutL s i k, 0, i⟩]) = R) := by
                        rw [← HSTEP.out]
                        refine (all_tok HCH.out HN32.out HN10.out HN35.out ?_ l).symm
                        unfold oneL; rw [HLE2.out]; simp only [if_true]
                        unfold wordL; rw [← HX.out.2, hkE, if_neg h24]
                      have hd24 : decide ((24 : Int) < (k : Int) - (i : Int)) = false := decide_eq_false (by omega)
                      clear hkE h24
                      have hi1 : k ≤ n := by omega
                      have hsl := fun W => run_slice_string (P := Tryz.prog) (w := W) 9 st .i64 .i64 (i : Nat) ((k : Nat) : Int) Tryz.underlying9 (by omega) (by omega) (by omega)
                      simp only [Int.toNat_natCast] at hsl
                      have hex : st.extract i k = ⟨(cutL s i k).toArray⟩ := by rw [HST.out]; exact ext_cut s i k
                      rw [hex] at hsl
                      clear hex
                      go_wp2_with fail
                      go_region
                      go_wp2_with fail
                      go_step3
                      go_wp2_with fail
                      refine ⟨rfl, ?_⟩
                      go_wp2_with (at_builtin; refine wpList_app_tok rfl (.tmp 155) (.tmp 157) rfl w.heap.size (wo.heap.size + 1) m A cap l ⟨1, cutL s i k, 0, i⟩ rfl ((HO.out.alloc _).alloc _) rfl (new2 wo _ _) (by omega) (by have := HB.out.size; simp; omega) ?_; intro A3 c3 w3 ho3 hg3; have HO3 := Lib.hid ho3; have HG3 := Lib.hid hg3; clear ho3 hg3)
                      go_wp2_with fail
                      simp only [Exit.jump]
                      go_wp2_with fail
                      go_roundw
                      case rel => exact ⟨k, l ++ [⟨1, cutL s i k, 0, i⟩], A3, c3, by go_num, by rw [List.length_append, ← HM.out]; rfl, by omega, by rw [List.length_append, ← HM.out]; simp; omega, HR2.out, by rw [List.length_append, ← HM.out]; exact HO3.out, ((HB.out.alloc HB.out.size _).alloc (by have := HB.out.size; simp; omega) _).drew.grown HG3.out (by have := HB.out.size; simp; omega) (fun g hg => (World.ownsRow.lt HO.out g hg).1)⟩
                      case measure => simp [intOf]; omega
      · have HR : Hid (R = (l, 0, 0)) := by rw [← HSTEP.out]; exact all_end (by rw [← HN.out]; omega)
        go_wp2_with fail
        rw [Exit.noGoto_ret]
        go_ret3
        exact ⟨A, cap, by rw [HR.out, HM.out]; rfl, by rw [HR.out, ← HM.out]; exact HO.out, HB.out⟩
end Go.Proofs.YtbcadlocldplfaaGreat
namespace Go.Proofs.YtbcadlocldplfaaGreat
def signsL : List (List UInt8) := [[61, 61], [33, 61], [60, 61], [40], [41], [123], [125], [91], [93], [44], [61], [60], [43], [45], [42], [47], [37]]
def mtB (s : List UInt8) (i : Nat) (t : List UInt8) : Bool := decide (i + t.length ≤ s.length) && (cutL s i (i + t.length) == t)
def noSign (s : List UInt8) (i : Nat) (c : UInt8) : (Nat × Nat) ⊕ (Tok × Nat) := if c ≠ 33 then .inl (i, 9) else if s.length = i + 1 then .inl (i + 1, 4) else .inl (i + 1, 9)
def refSign (s : List UInt8) (i : Nat) (c : UInt8) (k : Nat) : (Nat × Nat) ⊕ (Tok × Nat) :=
  match (signsL.drop k).find? (mtB s i) with
  | some t => .inr (⟨4, t, 0, i⟩, i + t.length)
  | none => noSign s i c
section
variable {s : List UInt8} {i : Nat} {c : UInt8}
theorem refSign_end : refSign s i c 17 = noSign s i c := rfl
theorem refSign_yes {k : Nat} {t : List UInt8} (ht : signsL[k]? = some t) (h : mtB s i t = true) : refSign s i c k = .inr (⟨4, t, 0, i⟩, i + t.length) := by
  obtain ⟨hk, he⟩ := List.getElem?_eq_some_iff.1 ht
  unfold refSign
  rw [List.drop_eq_getElem_cons hk, he, List.find?_cons, h]
theorem refSign_no {k : Nat} {t : List UInt8} (ht : signsL[k]? = some t) (h : mtB s i t = false) : refSign s i c k = refSign s i c (k + 1) := by
  obtain ⟨hk, he⟩ := List.getElem?_eq_some_iff.1 ht
  unfold refSign
  rw [List.drop_eq_getElem_cons hk, he, List.find?_cons, h]
theorem cut_one (hc : s[i]? = some c) : cutL s i (i + 1) = [c] := by
  obtain ⟨hk, he⟩ := List.getElem?_eq_some_iff.1 hc
  rw [cut_next s (Nat.le_refl i) hk, cut_self, he]; rfl
theorem mt_one (hc : s[i]? = some c) (a : UInt8) : mtB s i [a] = (c == a) := by
  obtain ⟨hk, _⟩ := List.getElem?_eq_some_iff.1 hc
  unfold mtB
  rw [show ([a] : List UInt8).length = 1 from rfl, cut_one hc, decide_eq_true (by omega : i + 1 ≤ s.length), Bool.true_and, Bool.eq_iff_iff]
  simp
theorem cut_two (hc : s[i]? = some c) {d : UInt8} (hd : s[i + 1]? = some d) : cutL s i (i + 2) = [c, d] := by
  obtain ⟨hk, he⟩ := List.getElem?_eq_some_iff.1 hd
  rw [show i + 2 = i + 1 + 1 from rfl, cut_next s (by omega : i ≤ i + 1) hk, cut_one hc, he]; rfl
theorem mt_two (hc : s[i]? = some c) (a b : UInt8) : mtB s i [a, b] = (c == a && s[i + 1]? == some b) := by
  unfold mtB
  rw [show ([a, b] : List UInt8).length = 2 from rfl]
  cases hd : s[i + 1]? with
  | none =>
    have : s.length ≤ i + 1 := List.getElem?_eq_none_iff.1 hd
    rw [decide_eq_false (by omega : ¬ i + 2 ≤ s.length)]; simp
  | some d =>
    obtain ⟨hk, _⟩ := List.getElem?_eq_some_iff.1 hd
    rw [cut_two hc hd, decide_eq_true (by omega : i + 2 ≤ s.length), Bool.true_and, Bool.eq_iff_iff]
    simp
theorem refSign_eq (hc : s[i]? = some c) : refSign s i c 0 = signL s i c := by
  obtain ⟨hk, _⟩ := List.getElem?_eq_some_iff.1 hc
  have h1 := cut_one hc
  have HF : refSign s i c 0 = match signsL.find? (mtB s i) with | some t => .inr (⟨4, t, 0, i⟩, i + t.length) | none => noSign s i c := rfl
  rw [HF]
  simp only [signsL, List.find?_cons, List.find?_nil, mt_one hc, mt_two hc]
  clear HF
  cases hd : s[i + 1]? with
  | none =>
    have hle2 : s.length = i + 1 := by have := List.getElem?_eq_none_iff.1 hd; omega
    by_cases hm : c ∈ signs
    · have hm0 := hm
      simp only [signs, List.mem_cons, List.not_mem_nil, or_false] at hm0
      rcases hm0 with h | h | h | h | h | h | h | h | h | h | h | h | h | h | h <;> (subst h; simp [signL, noSign, hm, hd, hle2, h1])
    · have hm0 := hm
      simp only [signs, List.mem_cons, List.not_mem_nil, or_false, not_or] at hm0
      obtain ⟨a1, a2, a3, a4, a5, a6, a7, a8, a9, a10, a11, a12, a13, a14, a15⟩ := hm0
      simp only [beq_eq_false_iff_ne.2 a1, beq_eq_false_iff_ne.2 a2, beq_eq_false_iff_ne.2 a3, beq_eq_false_iff_ne.2 a4, beq_eq_false_iff_ne.2 a5, beq_eq_false_iff_ne.2 a6, beq_eq_false_iff_ne.2 a7, beq_eq_false_iff_ne.2 a8, beq_eq_false_iff_ne.2 a9, beq_eq_false_iff_ne.2 a10, beq_eq_false_iff_ne.2 a11, beq_eq_false_iff_ne.2 a12, beq_eq_false_iff_ne.2 a13, beq_eq_false_iff_ne.2 a14, beq_eq_false_iff_ne.2 a15, Bool.false_and]
      simp [signL, noSign, hm, a15]
  | some d =>
    obtain ⟨hk2, _⟩ := List.getElem?_eq_some_iff.1 hd
    have h2 := cut_two hc hd
    have hle : ¬ s.length ≤ i + 1 := by omega
    have hle3 : ¬ s.length = i + 1 := by omega
    by_cases hm : c ∈ signs
    · have hm0 := hm
      simp only [signs, List.mem_cons, List.not_mem_nil, or_false] at hm0
      by_cases hd61 : d = 61
      · subst hd61
        rcases hm0 with h | h | h | h | h | h | h | h | h | h | h | h | h | h | h <;> (subst h; simp [signL, noSign, hm, hd, hle, h1, h2])
      · have hd62 : (some d == some (61 : UInt8)) = false := by rw [beq_eq_false_iff_ne]; intro h; injection h with h; exact hd61 h
        simp only [hd62, Bool.and_false]
        rcases hm0 with h | h | h | h | h | h | h | h | h | h | h | h | h | h | h <;> (subst h; simp [signL, noSign, hm, hd, hd61, hle, hle3, h1])
    · have hm0 := hm
      simp only [signs, List.mem_cons, List.not_mem_nil, or_false, not_or] at hm0
      obtain ⟨a1, a2, a3, a4, a5, a6, a7, a8, a9, a10, a11, a12, a13, a14, a15⟩ := hm0
      simp only [beq_eq_false_iff_ne.2 a1, beq_eq_false_iff_ne.2 a2, beq_eq_false_iff_ne.2 a3, beq_eq_false_iff_ne.2 a4, beq_eq_false_iff_ne.2 a5, beq_eq_false_iff_ne.2 a6, beq_eq_false_iff_ne.2 a7, beq_eq_false_iff_ne.2 a8, beq_eq_false_iff_ne.2 a9, beq_eq_false_iff_ne.2 a10, beq_eq_false_iff_ne.2 a11, beq_eq_false_iff_ne.2 a12, beq_eq_false_iff_ne.2 a13, beq_eq_false_iff_ne.2 a14, beq_eq_false_iff_ne.2 a15, Bool.false_and]
      simp [signL, noSign, hm, a15]
end
end Go.Proofs.YtbcadlocldplfaaGreat
namespace Go.Proofs.YtbcadlocldplfaaGreat
open Go.RowKit
theorem low_any (c : UInt8) (w : World) : Calls Tryz.prog 64 #[.int .u8 (c.toNat : Nat)] w fun e w' => e = .returned (.bool (lowB c)) ∧ w' = w := by
  have HC : Hid (lowB c = (decide (97 ≤ c.toNat) && decide (c.toNat ≤ 122))) := rfl
  have h1 : c.toNat < 256 := UInt8.toNat_lt _
  generalize c.toNat = x at *
  by_cases ha : 97 ≤ x
  · by_cases hb : x ≤ 122
    · go_enter Tryz.func64, Tryz.ntmps64
      go_wp2_with fail
      go_ret
      exact ⟨by rw [HC.out]; simp [ha, hb]; omega, rfl⟩
    · go_enter Tryz.func64, Tryz.ntmps64
      go_wp2_with fail
      go_ret
      exact ⟨by rw [HC.out]; simp [ha, hb]; omega, rfl⟩
  · go_enter Tryz.func64, Tryz.ntmps64
    go_wp2_with fail
    go_ret
    exact ⟨by rw [HC.out]; simp [ha], rfl⟩
theorem dig_any (c : UInt8) (w : World) : Calls Tryz.prog 66 #[.int .u8 (c.toNat : Nat)] w fun e w' => e = .returned (.bool (digB c)) ∧ w' = w := by
  have HC : Hid (digB c = (decide (48 ≤ c.toNat) && decide (c.toNat ≤ 57))) := rfl
  have h1 : c.toNat < 256 := UInt8.toNat_lt _
  generalize c.toNat = x at *
  by_cases ha : 48 ≤ x
  · by_cases hb : x ≤ 57
    · go_enter Tryz.func66, Tryz.ntmps66
      go_wp2_with fail
      go_ret
      exact ⟨by rw [HC.out]; simp [ha, hb]; omega, rfl⟩
    · go_enter Tryz.func66, Tryz.ntmps66
      go_wp2_with fail
      go_ret
      exact ⟨by rw [HC.out]; simp [ha, hb]; omega, rfl⟩
  · go_enter Tryz.func66, Tryz.ntmps66
    go_wp2_with fail
    go_ret
    exact ⟨by rw [HC.out]; simp [ha], rfl⟩
def Leads (s : List UInt8) (i j : Nat) : Prop := i ≤ j ∧ j ≤ s.length ∧ (∀ l, allL s i l = allL s j l) ∧ ∀ c, s[j]? = some c → c ≠ 32 ∧ c ≠ 10 ∧ c ≠ 35
theorem skip_blank {s : List UInt8} {i : Nat} {c : UInt8} (hc : s[i]? = some c) (h : c = 32 ∨ c = 10) (l : List Tok) : allL s i l = allL s (i + 1) l := by
  rw [allL_step, hc]
  show (if c = 32 ∨ c = 10 then _ else _) = _
  rw [if_pos h]
theorem skip_remark {s : List UInt8} {i : Nat} {c : UInt8} (hc : s[i]? = some c) (h : c = 35) (l : List Tok) : allL s i l = allL s (scan notNl s (i + 1)) l := by
  rw [allL_step, hc]
  show (if c = 32 ∨ c = 10 then _ else _) = _
  rw [if_neg (by rw [h]; decide), if_pos h]
set_option maxHeartbeats 2000000 in
theorem skip_any (s : List UInt8) (i : Nat) (hs : s.length ≤ 100000) (hi : i ≤ s.length) (w : World) :
    Calls Tryz.prog 40 #[.string ⟨s.toArray⟩, .int .i64 (i : Nat)] w fun e w' => (∃ j, e = .returned (.int .i64 (j : Nat)) ∧ Leads s i j) ∧ w' = w := by
  obtain ⟨st, hst⟩ : ∃ st : ByteArray, st = ⟨s.toArray⟩ := ⟨_, rfl⟩
  have hsz : st.size = s.length := by rw [hst]; rfl
  obtain ⟨n, hn⟩ : ∃ n, n = s.length := ⟨_, rfl⟩
  rw [← hst]
  rw [← hn] at hsz hs hi
  have HST := Lib.hid hst
  have HN := Lib.hid hn
  clear hst hn
  go_enter Tryz.func40, Tryz.ntmps40
  go_wp2_with fail
  go_loopw [1, 5] (fun s1 s5 wr => wr = w ∧ ∃ (k : Nat) (r : Bool), s1 = .int .i64 k ∧ s5 = .bool r ∧ i ≤ k ∧ k ≤ n ∧ ∀ l, allL s i l = allL s (if r then scan notNl s k else k) l) (fun s1 _ _ => n - (intOf s1).toNat)
  case atStart => exact ⟨rfl, i, false, rfl, rfl, Nat.le_refl _, hi, fun _ => rfl⟩
  case round =>
    obtain ⟨rfl, k, r, rfl, rfl, hik, hkn, hL⟩ := hrel
    have HL := Lib.hid hL
    clear hL
    by_cases hlt : k < n
    · have hks : k < s.length := by rw [← HN.out]; exact hlt
      obtain ⟨ch, hch⟩ : ∃ c, c = s[k] := ⟨_, rfl⟩
      have hkst : k < st.size := by omega
      have hg : st[k] = ch := by rw [hch]; exact st_get HST.out hkst hks
      have HCH : Hid (s[k]? = some ch) := by rw [hch]; exact List.getElem?_eq_getElem hks
      have HSC : Hid (ch ≠ 10 → scan notNl s k = scan notNl s (k + 1)) := fun h => scan_step _ _ hks (by rw [← hch]; unfold notNl; simpa using h)
      have HS10 : Hid (ch = 10 → scan notNl s k = k) := fun h => scan_stop _ _ hks (by rw [← hch, h]; rfl)
      clear hch hks
      have HE : Hid (∀ q : UInt8, ch = q ↔ ch.toNat = q.toNat) := fun q => ⟨fun h => by rw [h], fun h => UInt8.toNat_inj.1 h⟩
      have hcl : ch.toNat < 256 := UInt8.toNat_lt _
      obtain ⟨cv, hcv⟩ : ∃ v, v = ch.toNat := ⟨_, rfl⟩
      have hg2 : st[k].toNat = cv := by rw [hg, hcv]
      have HCV := Lib.hid hcv
      rw [← hcv] at hcl
      clear hg hcv
      by_cases h10 : cv = 10
      · have hb : ((cv : Int) == 10) = true := by rw [h10]; rfl
        have H10 : Hid (ch = 10) := (HE.out 10).2 (HCV.out.symm.trans h10)
        clear h10
        go_wp2_with fail
        go_roundw
        case rel =>
          refine ⟨trivial, k + 1, false, by go_num, rfl, by omega, by omega, fun l => ?_⟩
          rw [HL.out l]
          cases r
          · exact skip_blank HCH.out (.inr H10.out) l
          · show allL s (scan notNl s k) l = _
            rw [HS10.out H10.out]
            exact skip_blank HCH.out (.inr H10.out) l
        case measure => simp [intOf]; omega
      · have hb : ((cv : Int) == 10) = false := by rw [beq_eq_false_iff_ne]; omega
        have HN10 : Hid (ch ≠ 10) := fun h => h10 (HCV.out.trans ((HE.out 10).1 h))
        clear h10
        by_cases h35 : cv = 35
        · have hb2 : ((cv : Int) == 35) = true := by rw [h35]; rfl
          have H35 : Hid (ch = 35) := (HE.out 35).2 (HCV.out.symm.trans h35)
          clear h35
          go_wp2_with fail
          go_roundw
          case rel =>
            refine ⟨trivial, k + 1, true, by go_num, rfl, by omega, by omega, fun l => ?_⟩
            rw [HL.out l]
            cases r
            · exact skip_remark HCH.out H35.out l
            · show allL s (scan notNl s k) l = allL s (scan notNl s (k + 1)) l
              rw [HSC.out HN10.out]
          case measure => simp [intOf]; omega
        · have hb2 : ((cv : Int) == 35) = false := by rw [beq_eq_false_iff_ne]; omega
          have HN35 : Hid (ch ≠ 35) := fun h => h35 (HCV.out.trans ((HE.out 35).1 h))
          clear h35
          cases r
          · by_cases h32 : cv = 32
            · have hb3 : ((cv : Int) != 32) = false := by rw [h32]; rfl
              have H32 : Hid (ch = 32) := (HE.out 32).2 (HCV.out.symm.trans h32)
              clear h32
              go_wp2_with fail
              go_roundw
              case rel => exact ⟨trivial, k + 1, false, by go_num, rfl, by omega, by omega, fun l => (HL.out l).trans (skip_blank HCH.out (.inl H32.out) l)⟩
              case measure => simp [intOf]; omega
            · have hb3 : ((cv : Int) != 32) = true := by rw [bne_iff_ne]; omega
              have HN32 : Hid (ch ≠ 32) := fun h => h32 (HCV.out.trans ((HE.out 32).1 h))
              clear h32
              go_wp2_with fail
              go_ret
              refine ⟨⟨k, rfl, hik, by rw [← HN.out]; exact hkn, HL.out, fun c hc => ?_⟩, rfl⟩
              rw [HCH.out] at hc
              injection hc with hc
              rw [← hc]
              exact ⟨HN32.out, HN10.out, HN35.out⟩
          · go_wp2_with fail
            go_roundw
            case rel =>
              refine ⟨trivial, k + 1, true, by go_num, rfl, by omega, by omega, fun l => ?_⟩
              rw [HL.out l]
              show allL s (scan notNl s k) l = allL s (scan notNl s (k + 1)) l
              rw [HSC.out HN10.out]
            case measure => simp [intOf]; omega
    · have hkn2 : k = n := by omega
      have HK : Hid (Leads s i k) := by
        refine ⟨hik, by rw [← HN.out]; omega, fun l => ?_, fun c hc => ?_⟩
        · rw [HL.out l]
          cases r
          · rfl
          · show allL s (scan notNl s k) l = _
            rw [scan_end _ _ (by rw [← HN.out]; omega)]
        · rw [List.getElem?_eq_none (by rw [← HN.out]; omega)] at hc; cases hc
      go_wp2_with fail
      go_ret
      exact ⟨⟨k, rfl, HK.out⟩, rfl⟩
def toldV (t : Tok) (e q er : Nat) : Value := .agg #[.int .u8 (t.kind : Nat), .string ⟨t.text.toArray⟩, .int .i64 (t.int : Nat), .int .i64 (t.place : Nat), .int .i64 (e : Nat), .int .i64 (q : Nat), .int .i64 (er : Nat)]
def told : (Nat × Nat) ⊕ (Tok × Nat) → Value
  | .inl (q, er) => toldV ⟨0, [], 0, 0⟩ 0 q er
  | .inr (t, e) => toldV t e 0 0
def ToldPost (w : World) (r : (Nat × Nat) ⊕ (Tok × Nat)) (e : Ending) (w' : World) : Prop := e = .returned (told r) ∧ Below w.heap.size w w'
theorem wrong_any (q e : Nat) (w : World) : Calls Tryz.prog 86 #[.int .i64 (q : Nat), .int .i64 (e : Nat)] w (ToldPost w (.inl (q, e))) := by
  go_enter Tryz.func86, Tryz.ntmps86
  go_wp2_with fail
  refine bodyPost_ret (results_cell_row rfl _ _ w.heap.size 72 _ (0, 0) _ rfl (Blk.new w 72 _) Tryz.underlying72 rfl (by kernel_rfl)) rfl ⟨rfl, (Below.refl _ _).alloc (Nat.le_refl _) _⟩
theorem extract_cut (s : List UInt8) (i e : Nat) : (⟨s.toArray⟩ : ByteArray).extract i e = ⟨(cutL s i e).toArray⟩ := by
  apply ByteArray.ext
  rw [ByteArray.data_extract]
  unfold cutL
  simp [List.drop_take]
def signCells : Array Value := (signsL.map fun l => Value.string ⟨l.toArray⟩).toArray
theorem signs_call (w : World) :
    Calls Tryz.prog 88 #[] w fun e w' => e = .returned (.slice (some ⟨w.heap.size, 0, none⟩) 17 17) ∧ w.alloc (.cells signCells 9) = w' := by
  go_enter Tryz.func88, Tryz.ntmps88
  go_wp2
  go_ret
  exact ⟨rfl, rfl⟩
theorem signCells_get (k : Nat) (t : List UInt8) (h : signsL[k]? = some t) : signCells[k]? = some (.string ⟨t.toArray⟩) := by
  unfold signCells
  rw [List.getElem?_toArray, List.getElem?_map, h]; rfl
set_option maxRecDepth 100000 in
set_option maxHeartbeats 8000000 in
theorem refSign_any (s : List UInt8) (i : Nat) (c0 : UInt8) (hs : s.length ≤ 100000) (hc0 : s[i]? = some c0) (w : World) :
    Calls Tryz.prog 69 #[.string ⟨s.toArray⟩, .int .i64 (i : Nat)] w (ToldPost w (signL s i c0)) := by
  obtain ⟨st, hst⟩ : ∃ st : ByteArray, st = ⟨s.toArray⟩ := ⟨_, rfl⟩
  have hsz : st.size = s.length := by rw [hst]; rfl
  obtain ⟨n, hn⟩ : ∃ n, n = s.length := ⟨_, rfl⟩
  have hil : i < s.length := (List.getElem?_eq_some_iff.1 hc0).1
  have hsi : s[i] = c0 := by have h := hc0; rw [List.getElem?_eq_getElem hil] at h; injection h
  have hist0 : i < st.size := by omega
  obtain ⟨v0, hv0⟩ : ∃ v, v = c0.toNat := ⟨_, rfl⟩
  have hg0 : st[i].toNat = v0 := by rw [hv0, ← hsi, st_get hst hist0 hil]
  have hv0l : v0 < 256 := by rw [hv0]; exact UInt8.toNat_lt _
  have HC33 : Hid (c0 = 33 ↔ v0 = 33) := by rw [hv0]; exact ⟨fun h => by rw [h]; rfl, fun h => UInt8.toNat_inj.1 h⟩
  have HSG := Lib.hid (refSign_eq hc0)
  rw [← hst]
  rw [← hn] at hsz hs hil
  have HST := Lib.hid hst
  have HN := Lib.hid hn
  clear hst hn hsi hc0 hv0
  go_enter Tryz.func69, Tryz.ntmps69
  go_wp2_with fail
  refine (signs_call _).mono ?_
  rintro e w2 ⟨rfl, hw2⟩
  rw [← hw2]
  clear hw2 w2
  go_wp2_with fail
  go_loopw [6, 7] (fun s6 s7 wr => ∃ k : Nat, s6 = .int .i64 k ∧ k ≤ 17 ∧ refSign s i c0 k = signL s i c0 ∧ Blk wr w.heap.size 72 #[.int .u8 0, .string ⟨#[]⟩, .int .i64 0, .int .i64 0, .int .i64 0, .int .i64 0, .int .i64 0] ∧ Blk wr (w.heap.size + 1) 9 signCells ∧ Below w.heap.size w wr) (fun s6 _ _ => 17 - (intOf s6).toNat)
  case atStart => exact ⟨0, rfl, by omega, HSG.out, (Blk.new w 72 _).alloc _, new2 w _ _, ((Below.refl _ _).alloc (Nat.le_refl _) _).alloc (by simp) _⟩
  case round =>
    obtain ⟨k, rfl, hk17, hsg, hy, hy2, hb⟩ := hrel
    have HBW := Lib.hid hb
    have HY := Lib.hid hy
    have HY2 := Lib.hid hy2
    have HK := Lib.hid hsg
    have hszr : w.heap.size < wr.heap.size := hy.lt
    clear hsg hy hy2 hb
    by_cases hlt : k < 17
    · have hkl : k < signsL.length := hlt
      obtain ⟨t, ht⟩ : ∃ t, signsL[k]? = some t := ⟨_, List.getElem?_eq_getElem hkl⟩
      have htl : 1 ≤ t.length ∧ t.length ≤ 2 := by
        have h : t ∈ signsL := List.mem_of_getElem? ht
        have h : ∀ t ∈ signsL, 1 ≤ t.length ∧ t.length ≤ 2 := by decide
        exact h t (List.mem_of_getElem? ht)
      obtain ⟨htl1, htl2⟩ := htl
      obtain ⟨tb, htb⟩ : ∃ tb : ByteArray, tb = ⟨t.toArray⟩ := ⟨_, rfl⟩
      obtain ⟨L, hL⟩ : ∃ L, L = t.length := ⟨_, rfl⟩
      have hts : tb.size = L := by rw [htb, hL]; rfl
      have hcell : wr.cell? ⟨w.heap.size + 1, k, none⟩ = some (.string tb) := by rw [HY2.out.cell k, signCells_get k t ht, htb]
      rw [← hL] at htl1 htl2
      have HT := Lib.hid ht
      have HTB := Lib.hid htb
      have HL := Lib.hid hL
      have HMT : Hid (mtB s i t = (decide (i + L ≤ n) && (cutL s i (i + L) == t))) := by unfold mtB; rw [← HL.out, ← HN.out]; exact rfl
      clear ht htb hL hkl
      by_cases hfit : i + L ≤ n
      · have hsl := fun W => run_slice_string (P := Tryz.prog) (w := W) 9 st .i64 .i64 (i : Nat) ((i + L : Nat) : Int) Tryz.underlying9 (by omega) (by omega) (by omega)
        simp only [Int.toNat_natCast] at hsl
        obtain ⟨sub, hsub⟩ : ∃ sub, sub = st.extract i (i + L) := ⟨_, rfl⟩
        have HSUB : Hid ((sub.toList == tb.toList) = (cutL s i (i + L) == t)) := by rw [hsub, HST.out, extract_cut, HTB.out]; simp [Lib.toList_data]; exact trivial
        rw [← hsub] at hsl
        have hci : ((i + L : Nat) : Int) = (i : Int) + (L : Int) := by omega
        rw [hci] at hsl
        clear hsub hci
        have hd1 : decide ((i : Int) + (L : Int) ≤ (n : Int)) = true := decide_eq_true (by omega)
        have HFT : Hid (decide (i + L ≤ n) = true) := decide_eq_true hfit
        cases hq : (sub.toList == tb.toList)
        · have hmt : mtB s i t = false := by rw [HMT.out, HFT.out, ← HSUB.out, hq]; rfl
          have HR2 : Hid (refSign s i c0 (k + 1) = signL s i c0) := by rw [← HK.out]; exact (refSign_no HT.out hmt).symm
          clear hmt
          go_wp2_with fail
          go_quiet (fail)
          replace hcell : (wr.drewN nq).cell? ⟨w.heap.size + 1, k, none⟩ = some (.string tb) := hcell
          replace HY : Hid (Blk (wr.drewN nq) w.heap.size 72 #[.int .u8 0, .string ⟨#[]⟩, .int .i64 0, .int .i64 0, .int .i64 0, .int .i64 0, .int .i64 0]) := HY
          replace HY2 : Hid (Blk (wr.drewN nq) (w.heap.size + 1) 9 signCells) := HY2
          replace HBW : Hid (Below w.heap.size w (wr.drewN nq)) := below_drewN HBW.out nq
          replace hszr : w.heap.size < (wr.drewN nq).heap.size := hszr
          generalize wr.drewN nq = wq at *
          go_wp2_with fail
          go_roundw
          case rel => exact ⟨k + 1, by go_num, by omega, HR2.out, HY.out, HY2.out, HBW.out⟩
          case measure => simp [intOf]; omega
        · have HR : Hid (signL s i c0 = .inr (⟨4, t, 0, i⟩, i + L)) := by rw [← HK.out, refSign_yes HT.out (by rw [HMT.out, HFT.out, ← HSUB.out, hq]; rfl), ← HL.out]; exact rfl
          go_wp2_with fail
          go_quiet (fail)
          replace hcell : (wr.drewN nq).cell? ⟨w.heap.size + 1, k, none⟩ = some (.string tb) := hcell
          replace HY : Hid (Blk (wr.drewN nq) w.heap.size 72 #[.int .u8 0, .string ⟨#[]⟩, .int .i64 0, .int .i64 0, .int .i64 0, .int .i64 0, .int .i64 0]) := HY
          replace HY2 : Hid (Blk (wr.drewN nq) (w.heap.size + 1) 9 signCells) := HY2
          replace HBW : Hid (Below w.heap.size w (wr.drewN nq)) := below_drewN HBW.out nq
          replace hszr : w.heap.size < (wr.drewN nq).heap.size := hszr
          generalize wr.drewN nq = wq at *
          go_wp2_with (refine wpList_store_row rfl 72 _ _ rfl w.heap.size #[.int .u8 4, .string tb, .int .i64 0, .int .i64 (i : Nat), .int .i64 ((i : Int) + (L : Int)), .int .i64 0, .int .i64 0] rfl rfl 72 _ HY.out (by kernel_rfl) (by kernel_rfl) (by kernel_rfl) ?_)
          refine bodyPost_ret (results_cell_row rfl _ _ w.heap.size 72 #[.int .u8 4, .string tb, .int .i64 0, .int .i64 (i : Nat), .int .i64 ((i : Int) + (L : Int)), .int .i64 0, .int .i64 0] (0, 0) _ rfl (setRow_heap _ w.heap.size _ _ 72 _ HY.out) Tryz.underlying72 rfl (by kernel_rfl)) rfl ⟨by rw [HR.out, HTB.out]; rfl, below_setRow HBW.out (Nat.le_refl _) _⟩
      · have hmt : mtB s i t = false := by rw [HMT.out, decide_eq_false hfit]; rfl
        have HR2 : Hid (refSign s i c0 (k + 1) = signL s i c0) := by rw [← HK.out]; exact (refSign_no HT.out hmt).symm
        clear hmt
        have hd1 : decide ((i : Int) + (L : Int) ≤ (n : Int)) = false := decide_eq_false (by omega)
        clear hfit
        go_wp2_with fail
        go_quiet (fail)
        replace hcell : (wr.drewN nq).cell? ⟨w.heap.size + 1, k, none⟩ = some (.string tb) := hcell
        replace HY : Hid (Blk (wr.drewN nq) w.heap.size 72 #[.int .u8 0, .string ⟨#[]⟩, .int .i64 0, .int .i64 0, .int .i64 0, .int .i64 0, .int .i64 0]) := HY
        replace HY2 : Hid (Blk (wr.drewN nq) (w.heap.size + 1) 9 signCells) := HY2
        replace HBW : Hid (Below w.heap.size w (wr.drewN nq)) := below_drewN HBW.out nq
        replace hszr : w.heap.size < (wr.drewN nq).heap.size := hszr
        generalize wr.drewN nq = wq at *
        go_wp2_with fail
        go_roundw
        case rel => exact ⟨k + 1, by go_num, by omega, HR2.out, HY.out, HY2.out, HBW.out⟩
        case measure => simp [intOf]; omega
    · obtain rfl : k = 17 := by omega
      have HNS : Hid (signL s i c0 = if c0 ≠ 33 then .inl (i, 9) else if s.length = i + 1 then .inl (i + 1, 4) else .inl (i + 1, 9)) := HK.out.symm
      by_cases h33 : v0 = 33
      · have hb33 : ((v0 : Int) != 33) = false := by rw [h33]; rfl
        have HN2 : Hid (signL s i c0 = if s.length = i + 1 then .inl (i + 1, 4) else .inl (i + 1, 9)) := by rw [HNS.out, if_neg (fun h => h (HC33.out.2 h33))]; exact rfl
        clear h33 HNS
        by_cases hend : n = i + 1
        · have HR : Hid (signL s i c0 = .inl (i + 1, 4)) := by rw [HN2.out, if_pos (by rw [← HN.out]; exact hend)]; exact rfl
          have hb1 : ((i : Int) + 1 == (n : Int)) = true := by rw [beq_iff_eq]; omega
          clear hend
          go_wp2_with fail
          refine (wrong_any (i + 1) 4 wr).mono ?_
          rintro e w2 ⟨rfl, hb2⟩
          unfold told toldV
          have HB2 := Lib.hid (HBW.out.trans (hb2.mono HBW.out.size))
          have HY3 : Hid (Blk w2 w.heap.size 72 #[.int .u8 0, .string ⟨#[]⟩, .int .i64 0, .int .i64 0, .int .i64 0, .int .i64 0, .int .i64 0]) := (hb2.block _ hszr).trans HY.out
          clear hb2
          go_wp2_with (refine wpList_store_row rfl 72 _ _ rfl w.heap.size #[.int .u8 0, .string ⟨#[]⟩, .int .i64 0, .int .i64 0, .int .i64 0, .int .i64 (i + 1 : Nat), .int .i64 4] rfl rfl 72 _ HY3.out (by kernel_rfl) (by kernel_rfl) (by kernel_rfl) ?_)
          refine bodyPost_ret (results_cell_row rfl _ _ w.heap.size 72 #[.int .u8 0, .string ⟨#[]⟩, .int .i64 0, .int .i64 0, .int .i64 0, .int .i64 (i + 1 : Nat), .int .i64 4] (0, 0) _ rfl (setRow_heap _ w.heap.size _ _ 72 _ HY3.out) Tryz.underlying72 rfl (by kernel_rfl)) rfl ⟨by rw [HR.out]; rfl, below_setRow HB2.out (Nat.le_refl _) _⟩
        · have HR : Hid (signL s i c0 = .inl (i + 1, 9)) := by rw [HN2.out, if_neg (by rw [← HN.out]; exact hend)]; exact rfl
          have hb1 : ((i : Int) + 1 == (n : Int)) = false := by rw [beq_eq_false_iff_ne]; omega
          clear hend
          go_wp2_with fail
          refine (wrong_any (i + 1) 9 wr).mono ?_
          rintro e w2 ⟨rfl, hb2⟩
          unfold told toldV
          have HB2 := Lib.hid (HBW.out.trans (hb2.mono HBW.out.size))
          have HY3 : Hid (Blk w2 w.heap.size 72 #[.int .u8 0, .string ⟨#[]⟩, .int .i64 0, .int .i64 0, .int .i64 0, .int .i64 0, .int .i64 0]) := (hb2.block _ hszr).trans HY.out
          clear hb2
          go_wp2_with (refine wpList_store_row rfl 72 _ _ rfl w.heap.size #[.int .u8 0, .string ⟨#[]⟩, .int .i64 0, .int .i64 0, .int .i64 0, .int .i64 (i + 1 : Nat), .int .i64 9] rfl rfl 72 _ HY3.out (by kernel_rfl) (by kernel_rfl) (by kernel_rfl) ?_)
          refine bodyPost_ret (results_cell_row rfl _ _ w.heap.size 72 #[.int .u8 0, .string ⟨#[]⟩, .int .i64 0, .int .i64 0, .int .i64 0, .int .i64 (i + 1 : Nat), .int .i64 9] (0, 0) _ rfl (setRow_heap _ w.heap.size _ _ 72 _ HY3.out) Tryz.underlying72 rfl (by kernel_rfl)) rfl ⟨by rw [HR.out]; rfl, below_setRow HB2.out (Nat.le_refl _) _⟩
      · have hb33 : ((v0 : Int) != 33) = true := by rw [bne_iff_ne]; omega
        have HR : Hid (signL s i c0 = .inl (i, 9)) := by rw [HNS.out, if_pos (fun h => h33 (HC33.out.1 h))]; exact rfl
        clear h33
        go_wp2_with fail
        refine (wrong_any (i) 9 wr).mono ?_
        rintro e w2 ⟨rfl, hb2⟩
        unfold told toldV
        have HB2 := Lib.hid (HBW.out.trans (hb2.mono HBW.out.size))
        have HY3 : Hid (Blk w2 w.heap.size 72 #[.int .u8 0, .string ⟨#[]⟩, .int .i64 0, .int .i64 0, .int .i64 0, .int .i64 0, .int .i64 0]) := (hb2.block _ hszr).trans HY.out
        clear hb2
        go_wp2_with (refine wpList_store_row rfl 72 _ _ rfl w.heap.size #[.int .u8 0, .string ⟨#[]⟩, .int .i64 0, .int .i64 0, .int .i64 0, .int .i64 (i : Nat), .int .i64 9] rfl rfl 72 _ HY3.out (by kernel_rfl) (by kernel_rfl) (by kernel_rfl) ?_)
        refine bodyPost_ret (results_cell_row rfl _ _ w.heap.size 72 #[.int .u8 0, .string ⟨#[]⟩, .int .i64 0, .int .i64 0, .int .i64 0, .int .i64 (i : Nat), .int .i64 9] (0, 0) _ rfl (setRow_heap _ w.heap.size _ _ 72 _ HY3.out) Tryz.underlying72 rfl (by kernel_rfl)) rfl ⟨by rw [HR.out]; rfl, below_setRow HB2.out (Nat.le_refl _) _⟩
theorem refHex_any (c : UInt8) (w : World) : Calls Tryz.prog 94 #[.int .u8 (c.toNat : Nat)] w fun e w' => e = .returned (.int .i64 ((hexD c).elim (-1) fun d => (d : Int))) ∧ w' = w := by
  have HD := Lib.hid (dig_any c w)
  have HH : Hid (hexD c = if digB c then some (c.toNat - 48) else if 97 ≤ c.toNat ∧ c.toNat ≤ 102 then some (c.toNat - 87) else none) := rfl
  have HG : Hid (digB c = (decide (48 ≤ c.toNat) && decide (c.toNat ≤ 57))) := rfl
  have h1 : c.toNat < 256 := UInt8.toNat_lt _
  generalize c.toNat = x at *
  cases hd : digB c
  · rw [hd] at HD HH
    by_cases ha : 97 ≤ x
    · by_cases hb : x ≤ 102
      · have HR : Hid (hexD c = some (x - 87)) := by rw [HH.out, if_neg (by decide), if_pos ⟨ha, hb⟩]; exact rfl
        clear hd HG HH
        go_enter Tryz.func94, Tryz.ntmps94
        go_wp2_with fail
        refine HD.out.mono ?_
        rintro e w2 ⟨rfl, rfl⟩
        go_wp2_with fail
        go_ret
        exact ⟨by rw [HR.out]; exact congrArg (fun z => Ending.returned (Value.int .i64 z)) (by simp; omega), rfl⟩
      · have HR : Hid (hexD c = none) := by rw [HH.out, if_neg (by decide), if_neg (fun h => hb h.2)]; exact rfl
        clear hd HG HH
        go_enter Tryz.func94, Tryz.ntmps94
        go_wp2_with fail
        refine HD.out.mono ?_
        rintro e w2 ⟨rfl, rfl⟩
        go_wp2_with fail
        go_ret
        exact ⟨by rw [HR.out]; rfl, rfl⟩
    · have HR : Hid (hexD c = none) := by rw [HH.out, if_neg (by decide), if_neg (fun h => ha h.1)]; exact rfl
      clear hd HG HH
      go_enter Tryz.func94, Tryz.ntmps94
      go_wp2_with fail
      refine HD.out.mono ?_
      rintro e w2 ⟨rfl, rfl⟩
      go_wp2_with fail
      go_ret
      exact ⟨by rw [HR.out]; rfl, rfl⟩
  · have h2 : 48 ≤ x ∧ x ≤ 57 := by have h := HG.out; rw [hd] at h; simpa using h.symm
    obtain ⟨h3, h4⟩ := h2
    rw [hd] at HD HH
    have HR : Hid (hexD c = some (x - 48)) := by rw [HH.out, if_pos rfl]; exact rfl
    clear hd HG HH
    go_enter Tryz.func94, Tryz.ntmps94
    go_wp2_with fail
    refine HD.out.mono ?_
    rintro e w2 ⟨rfl, rfl⟩
    go_wp2_with fail
    go_ret
    exact ⟨by rw [HR.out]; exact congrArg (fun z => Ending.returned (Value.int .i64 z)) (by simp; omega), rfl⟩
def escR (r : (Nat × Nat) ⊕ (Nat × Nat)) : Nat × Nat × Nat × Nat := match r with
  | .inl (q, e) => (0, 0, q, e)
  | .inr (x, nx) => (x, nx, 0, 0)
def EscPost (w : World) (R : Nat × Nat × Nat × Nat) (e : Ending) (w' : World) : Prop :=
  e = .returned (.tuple #[.int .u8 (R.1 : Nat), .int .i64 (R.2.1 : Nat), .int .i64 (R.2.2.1 : Nat), .int .i64 (R.2.2.2 : Nat)]) ∧ w' = w
set_option maxHeartbeats 4000000 in
theorem escape_any (s : List UInt8) (i : Nat) (hs : s.length ≤ 100000) (w : World) :
    Calls Tryz.prog 87 #[.string ⟨s.toArray⟩, .int .i64 (i : Nat)] w (EscPost w (escR (escL s i))) := by
  obtain ⟨st, hst⟩ : ∃ st : ByteArray, st = ⟨s.toArray⟩ := ⟨_, rfl⟩
  have hsz : st.size = s.length := by rw [hst]; rfl
  obtain ⟨n, hn⟩ : ∃ n, n = s.length := ⟨_, rfl⟩
  rw [← hst]
  rw [← hn] at hsz hs
  have HST := Lib.hid hst
  have HN := Lib.hid hn
  clear hst hn
  go_enter Tryz.func87, Tryz.ntmps87
  by_cases hin : n ≤ i
  · have HR : Hid (escR (escL s i) = (0, 0, n, 4)) := by unfold escL; rw [List.getElem?_eq_none (by rw [← HN.out]; exact hin), HN.out]; exact rfl
    go_wp2_with fail
    refine bodyPost_ret (results_tmp4 rfl _ _ _) rfl ?_
    exact ⟨by rw [HR.out]; rfl, rfl⟩
  · have hlt : i < n := by omega
    have hdn : decide (n ≤ i) = false := decide_eq_false hin
    clear hin
    have hks : i < s.length := by rw [← HN.out]; exact hlt
    obtain ⟨ch, hch⟩ : ∃ c, c = s[i] := ⟨_, rfl⟩
    have hkst : i < st.size := by omega
    have hg : st[i] = ch := by rw [hch]; exact st_get HST.out hkst hks
    have HCH : Hid (s[i]? = some ch) := by rw [hch]; exact List.getElem?_eq_getElem hks
    have HR0 : Hid (escL s i = if ch = 34 ∨ ch = 92 then .inr (ch.toNat, i + 1) else if ch = 110 then .inr (10, i + 1) else if ch = 120 then hex2 s (i + 1) else .inl (i, 9)) := by unfold escL; rw [HCH.out]; exact rfl
    clear hch hks
    have HE : Hid (∀ q : UInt8, ch = q ↔ ch.toNat = q.toNat) := fun q => ⟨fun h => by rw [h], fun h => UInt8.toNat_inj.1 h⟩
    have hcl : ch.toNat < 256 := UInt8.toNat_lt _
    obtain ⟨cv, hcv⟩ : ∃ v, v = ch.toNat := ⟨_, rfl⟩
    have hg2 : st[i].toNat = cv := by rw [hg, hcv]
    have HCV := Lib.hid hcv
    rw [← hcv] at hcl
    clear hg hcv
    by_cases h1 : cv = 34
    · have hb1 : ((cv : Int) == 34) = true := by rw [h1]; rfl
      have HR : Hid (escR (escL s i) = (cv, i + 1, 0, 0)) := by rw [HR0.out, if_pos (.inl ((HE.out 34).2 (HCV.out.symm.trans h1))), ← HCV.out]; exact rfl
      clear h1 HR0
      go_wp2_with fail
      refine bodyPost_ret (results_tmp4 rfl _ _ _) rfl ?_
      exact ⟨by rw [HR.out]; rfl, rfl⟩
    · have hb1 : ((cv : Int) == 34) = false := by rw [beq_eq_false_iff_ne]; omega
      by_cases h2 : cv = 92
      · have hb2 : ((cv : Int) == 92) = true := by rw [h2]; rfl
        have HR : Hid (escR (escL s i) = (cv, i + 1, 0, 0)) := by rw [HR0.out, if_pos (.inr ((HE.out 92).2 (HCV.out.symm.trans h2))), ← HCV.out]; exact rfl
        clear h1 h2 HR0
        go_wp2_with fail
        refine bodyPost_ret (results_tmp4 rfl _ _ _) rfl ?_
        exact ⟨by rw [HR.out]; rfl, rfl⟩
      · have hb2 : ((cv : Int) == 92) = false := by rw [beq_eq_false_iff_ne]; omega
        have HN1 : Hid (¬ (ch = 34 ∨ ch = 92)) := fun h => h.elim (fun h => h1 (HCV.out.trans ((HE.out 34).1 h))) (fun h => h2 (HCV.out.trans ((HE.out 92).1 h)))
        clear h1 h2
        by_cases h3 : cv = 110
        · have hb3 : ((cv : Int) == 110) = true := by rw [h3]; rfl
          have HR : Hid (escR (escL s i) = (10, i + 1, 0, 0)) := by rw [HR0.out, if_neg HN1.out, if_pos ((HE.out 110).2 (HCV.out.symm.trans h3))]; exact rfl
          clear h3 HR0
          go_wp2_with fail
          refine bodyPost_ret (results_tmp4 rfl _ _ _) rfl ?_
          exact ⟨by rw [HR.out]; rfl, rfl⟩
        · have hb3 : ((cv : Int) == 110) = false := by rw [beq_eq_false_iff_ne]; omega
          by_cases h4 : cv = 120
          · have hb4 : ((cv : Int) != 120) = false := by rw [h4]; rfl
            have HR1 : Hid (escR (escL s i) = escR (hex2 s (i + 1))) := by rw [HR0.out, if_neg HN1.out, if_neg (fun h => h3 (HCV.out.trans ((HE.out 110).1 h))), if_pos ((HE.out 120).2 (HCV.out.symm.trans h4))]; exact rfl
            clear h3 h4 HR0
            go_wp2_with fail
            go_loopw [9, 10] (fun s9 s10 wr => wr = w ∧ ∃ j x : Nat, s10 = .int .i64 ((i + 1 + j : Nat) : Int) ∧ s9 = .int .i64 x ∧ x < 256 ∧ ((j = 0 ∧ x = 0) ∨ (j = 1 ∧ x < 16 ∧ i + 1 < n ∧ ∃ a : UInt8, s[i + 1]? = some a ∧ hexD a = some x) ∨ (j = 2 ∧ i + 2 < n ∧ hex2 s (i + 1) = .inr (x, i + 3)))) (fun _ s10 _ => i + 3 - (intOf s10).toNat)
            case atStart => exact ⟨rfl, 0, 0, by first | rfl | (congr 1), rfl, by omega, .inl ⟨rfl, rfl⟩⟩
            case round =>
              obtain ⟨rfl, j, x, rfl, rfl, hx, hj⟩ := hrel
              rcases hj with ⟨rfl, rfl⟩ | ⟨rfl, hx16, hk2n, a, ha, hax⟩ | ⟨rfl, hk3, hh⟩
              · by_cases hke : n ≤ i + 1
                · have HR : Hid (escR (escL s i) = (0, 0, n, 4)) := by
                    rw [HR1.out]
                    unfold hex2
                    rw [List.getElem?_eq_none (by rw [← HN.out]; omega), HN.out]; exact rfl
                  go_wp2_with fail
                  refine bodyPost_ret (results_tmp4 rfl _ _ _) rfl ?_
                  exact ⟨by rw [HR.out]; rfl, rfl⟩
                · have hkl : i + 1 < n := by omega
                  clear hke
                  have hks : i + 1 < s.length := by rw [← HN.out]; exact hkl
                  obtain ⟨d1, hd1⟩ : ∃ c, c = s[i + 1] := ⟨_, rfl⟩
                  have hkst2 : i + 1 < st.size := by omega
                  have hgd : st[i + 1] = d1 := by rw [hd1]; exact st_get HST.out hkst2 hks
                  have HD1 : Hid (s[i + 1]? = some d1) := by rw [hd1]; exact List.getElem?_eq_getElem hks
                  clear hd1 hks
                  go_wp2_with fail
                  refine (refHex_any d1 _).mono ?_
                  rintro e w2 ⟨rfl, hw2⟩
                  rw [hw2]
                  clear hw2 w2
                  cases hhd : hexD d1 with
                  | none =>
                    have HR : Hid (escR (escL s i) = (0, 0, i + 1, 9)) := by
                      rw [HR1.out]
                      unfold hex2
                      rw [HD1.out]
                      simp only [hhd]
                      exact rfl
                    clear hhd
                    simp only [Option.elim]
                    go_wp2_with fail
                    refine bodyPost_ret (results_tmp4 rfl _ _ _) rfl ?_
                    exact ⟨by rw [HR.out]; rfl, rfl⟩
                  | some d =>
                    have hd16 := hexD_lt hhd
                    have HHD := Lib.hid hhd
                    clear hhd
                    simp only [Option.elim]
                    go_wp2_with fail
                    go_roundw
                    case rel => exact ⟨trivial, 1, d, congrArg (Value.int .i64) (by omega), congrArg (Value.int .i64) (by omega), by omega, .inr (.inl ⟨rfl, hd16, hkl, d1, HD1.out, HHD.out⟩)⟩
                    case measure => simp [intOf]; omega
              · have HA := Lib.hid (And.intro ha hax)
                clear ha hax
                by_cases hke : n ≤ i + 2
                · have HR : Hid (escR (escL s i) = (0, 0, n, 4)) := by
                    rw [HR1.out]
                    unfold hex2
                    rw [HA.out.1]
                    simp only [HA.out.2]
                    rw [List.getElem?_eq_none (by rw [← HN.out]; omega), HN.out]; exact rfl
                  go_wp2_with fail
                  refine bodyPost_ret (results_tmp4 rfl _ _ _) rfl ?_
                  exact ⟨by rw [HR.out]; rfl, rfl⟩
                · have hkl : i + 2 < n := by omega
                  clear hke
                  have hks : i + 2 < s.length := by rw [← HN.out]; exact hkl
                  obtain ⟨d1, hd1⟩ : ∃ c, c = s[i + 2] := ⟨_, rfl⟩
                  have hkst2 : i + 2 < st.size := by omega
                  have hgd : st[i + 2] = d1 := by rw [hd1]; exact st_get HST.out hkst2 hks
                  have HD1 : Hid (s[i + 2]? = some d1) := by rw [hd1]; exact List.getElem?_eq_getElem hks
                  clear hd1 hks
                  go_wp2_with fail
                  refine (refHex_any d1 _).mono ?_
                  rintro e w2 ⟨rfl, hw2⟩
                  rw [hw2]
                  clear hw2 w2
                  cases hhd : hexD d1 with
                  | none =>
                    have HR : Hid (escR (escL s i) = (0, 0, i + 2, 9)) := by
                      rw [HR1.out]
                      unfold hex2
                      rw [HA.out.1]
                      simp only [HA.out.2]
                      rw [HD1.out]
                      simp only [hhd]
                      exact rfl
                    clear hhd
                    simp only [Option.elim]
                    go_wp2_with fail
                    refine bodyPost_ret (results_tmp4 rfl _ _ _) rfl ?_
                    exact ⟨by rw [HR.out]; rfl, rfl⟩
                  | some d =>
                    have hd16 := hexD_lt hhd
                    have HHD := Lib.hid hhd
                    clear hhd
                    simp only [Option.elim]
                    go_wp2_with fail
                    go_roundw
                    case rel =>
                      refine ⟨trivial, 2, 16 * x + d, congrArg (Value.int .i64) (by omega), congrArg (Value.int .i64) (by omega), by omega, .inr (.inr ⟨rfl, hkl, ?_⟩)⟩
                      unfold hex2
                      rw [HA.out.1]
                      simp only [HA.out.2]
                      rw [HD1.out]
                      simp only [HHD.out]
                    case measure => simp [intOf]; omega
              · have HR : Hid (escR (escL s i) = (x, i + 3, 0, 0)) := by rw [HR1.out, hh]; exact rfl
                clear hh
                go_wp2_with fail
                refine bodyPost_ret (results_tmp4 rfl _ _ _) rfl ?_
                exact ⟨by rw [HR.out]; first | rfl | (refine congrArg Ending.returned ?_; simp; omega), rfl⟩
          · have hb4 : ((cv : Int) != 120) = true := by rw [bne_iff_ne]; omega
            have HR : Hid (escR (escL s i) = (0, 0, i, 9)) := by rw [HR0.out, if_neg HN1.out, if_neg (fun h => h3 (HCV.out.trans ((HE.out 110).1 h))), if_neg (fun h => h4 (HCV.out.trans ((HE.out 120).1 h)))]; exact rfl
            clear h3 h4 HR0
            go_wp2_with fail
            refine bodyPost_ret (results_tmp4 rfl _ _ _) rfl ?_
            exact ⟨by rw [HR.out]; rfl, rfl⟩
end Go.Proofs.YtbcadlocldplfaaGreat
