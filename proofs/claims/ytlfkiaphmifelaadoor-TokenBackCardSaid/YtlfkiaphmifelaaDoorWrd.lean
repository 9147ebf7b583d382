/- Contract of the document's word. -/
import Derived.Laws.CopyOwn
import Derived.Test.YtlfkiaphmifelaaDoorWrg
namespace Go.Proofs.YtlfkiaphmifelaaDoor
open Go.RowKit

set_option maxHeartbeats 2000000 in
theorem word_any (s : List UInt8) (i : Nat) (hs : s.length ≤ 100000) (hi : i ≤ s.length) (w : World) :
    Calls Tryd.prog 32 #[.string ⟨s.toArray⟩, .int .i64 (i : Nat)] w (ToldPost w (wordL s i)) := by
  obtain ⟨st, hst⟩ : ∃ st : ByteArray, st = ⟨s.toArray⟩ := ⟨_, rfl⟩
  have hsz : st.size = s.length := by rw [hst]; rfl
  obtain ⟨n, hn⟩ : ∃ n, n = s.length := ⟨_, rfl⟩
  obtain ⟨E, hE⟩ : ∃ E, E = scan innB s i := ⟨_, rfl⟩
  have hEn : E ≤ n := by rw [hE, hn]; exact scan_le _ _ hi
  have hiE : i ≤ E := by rw [hE]; exact scan_ge _ _ _
  rw [← hst]
  rw [← hn] at hsz hs hi
  have HST := Lib.hid hst
  have HN := Lib.hid hn
  have HE := Lib.hid hE
  clear hst hn hE
  go_enter Tryd.func32, Tryd.ntmps32
  go_wp2_with fail
  go_loopw [5] (fun s5 wr => (∃ k : Nat, s5 = .int .i64 k ∧ i ≤ k ∧ k ≤ E ∧ scan innB s k = E) ∧ wr = w.alloc (.cells #[.int .u8 0, .string ⟨#[]⟩, .int .i64 0, .int .i64 0, .int .i64 0, .int .i64 0, .int .i64 0] 61)) (fun s5 _ => n - (intOf s5).toNat)
  case atStart => exact ⟨⟨i, rfl, Nat.le_refl _, hiE, HE.out.symm⟩, rfl⟩
  case round =>
    obtain ⟨⟨k, rfl, hik, hkE, hsc⟩, hw⟩ := hrel
    have HX := Lib.hid (And.intro hsc hw)
    clear hsc hw
    by_cases hlt : k < n
    · have hks : k < s.length := by rw [← HN.out]; exact hlt
      obtain ⟨ch, hch⟩ : ∃ c, c = s[k] := ⟨_, rfl⟩
      have hkst : k < st.size := by omega
      have hg : st[k] = ch := by rw [hch]; exact st_get HST.out hkst hks
      have HSP : Hid (innB ch = false → k = E) := fun hd => by rw [← HX.out.1]; exact (scan_stop _ _ hks (by rw [← hch]; exact hd)).symm
      have HST2 : Hid (innB ch = true → scan innB s (k + 1) = E) := fun hd => by rw [← HX.out.1]; exact (scan_step _ _ hks (by rw [← hch]; exact hd)).symm
      clear hch hks
      have HIN : Hid (innB ch = (lowB ch || digB ch || decide (ch.toNat = 95))) := rfl
      have hcl : ch.toNat < 256 := UInt8.toNat_lt _
      have HLO := Lib.hid (low_any ch wr)
      have HDI := Lib.hid (dig_any ch wr)
      obtain ⟨cv, hcv⟩ : ∃ v, v = ch.toNat := ⟨_, rfl⟩
      have hg2 : st[k].toNat = cv := by rw [hg, hcv]
      rw [← hcv] at HLO HDI HIN hcl
      clear hg hcv
      by_cases hin : innB ch = true
      · have HS := Lib.hid (HST2.out hin)
        have hkE3 : k + 1 ≤ E := by rw [← HS.out]; exact scan_ge _ _ _
        rw [HIN.out] at hin
        cases hlo : lowB ch
        · cases hdi : digB ch
          · have h95 : cv = 95 := by rw [hlo, hdi] at hin; simpa using hin
            have hb95 : ((cv : Int) == 95) = true := by rw [h95]; rfl
            clear h95 hin
            go_wp2_with fail
            refine HLO.out.mono ?_
            rintro e w3 ⟨rfl, hw3⟩
            rw [hw3, hlo]
            clear hw3 w3
            go_wp2_with fail
            refine HDI.out.mono ?_
            rintro e w3 ⟨rfl, hw3⟩
            rw [hw3, hdi]
            clear hw3 w3
            go_wp2_with fail
            go_roundw
            case rel => exact ⟨⟨k + 1, by go_num, by omega, hkE3, HS.out⟩, HX.out.2⟩
            case measure => simp [intOf]; omega
          · clear hin
            go_wp2_with fail
            refine HLO.out.mono ?_
            rintro e w3 ⟨rfl, hw3⟩
            rw [hw3, hlo]
            clear hw3 w3
            go_wp2_with fail
            refine HDI.out.mono ?_
            rintro e w3 ⟨rfl, hw3⟩
            rw [hw3, hdi]
            clear hw3 w3
            go_wp2_with fail
            go_roundw
            case rel => exact ⟨⟨k + 1, by go_num, by omega, hkE3, HS.out⟩, HX.out.2⟩
            case measure => simp [intOf]; omega
        · clear hin
          go_wp2_with fail
          refine HLO.out.mono ?_
          rintro e w3 ⟨rfl, hw3⟩
          rw [hw3, hlo]
          clear hw3 w3
          go_wp2_with fail
          go_roundw
          case rel => exact ⟨⟨k + 1, by go_num, by omega, hkE3, HS.out⟩, HX.out.2⟩
          case measure => simp [intOf]; omega
      · have hkE2 : k = E := HSP.out (by simpa using hin)
        rw [HIN.out] at hin
        have hlo : lowB ch = false := by cases h : lowB ch <;> simp_all
        have hdi : digB ch = false := by cases h : digB ch <;> simp_all
        have h95 : ¬ cv = 95 := by rw [hlo, hdi] at hin; simpa using hin
        have hb95 : ((cv : Int) == 95) = false := by rw [beq_eq_false_iff_ne]; omega
        clear hin h95
        have hbw : Below w.heap.size w wr := by rw [HX.out.2]; exact (Below.refl _ _).alloc (Nat.le_refl _) _
        have HBW := Lib.hid hbw
        have hy : Blk wr w.heap.size 61 #[.int .u8 0, .string ⟨#[]⟩, .int .i64 0, .int .i64 0, .int .i64 0, .int .i64 0, .int .i64 0] := by rw [HX.out.2]; exact Blk.new w 61 _
        have HY := Lib.hid hy
        have hszr : w.heap.size < wr.heap.size := hy.lt
        clear hbw hy
        by_cases h24 : 24 < k - i
        · have HR : Hid (wordL s i = .inl (i, 2)) := by unfold wordL; rw [← HE.out, ← hkE2, if_pos h24]; exact rfl
          clear hkE2
          go_wp2_with fail
          refine HLO.out.mono ?_
          rintro e w3 ⟨rfl, hw3⟩
          rw [hw3, hlo]
          clear hw3 w3
          go_wp2_with fail
          refine HDI.out.mono ?_
          rintro e w3 ⟨rfl, hw3⟩
          rw [hw3, hdi]
          clear hw3 w3
          go_wp2_with fail
          refine (wrong_any i 2 wr).mono ?_
          rintro e w2 ⟨rfl, hb2⟩
          unfold told toldV
          have HB2 := Lib.hid (HBW.out.trans (hb2.mono HBW.out.size))
          have HY2 : Hid (Blk w2 w.heap.size 61 #[.int .u8 0, .string ⟨#[]⟩, .int .i64 0, .int .i64 0, .int .i64 0, .int .i64 0, .int .i64 0]) := (hb2.block _ hszr).trans HY.out
          clear hb2
          go_wp2_with (refine wpList_store_row rfl 61 _ _ rfl w.heap.size #[.int .u8 0, .string ⟨#[]⟩, .int .i64 0, .int .i64 0, .int .i64 0, .int .i64 (i : Nat), .int .i64 2] rfl rfl 61 _ HY2.out (by kernel_rfl) (by kernel_rfl) (by kernel_rfl) ?_)
          refine bodyPost_ret (results_cell_row rfl _ _ w.heap.size 61 #[.int .u8 0, .string ⟨#[]⟩, .int .i64 0, .int .i64 0, .int .i64 0, .int .i64 (i : Nat), .int .i64 2] (0, 0) _ rfl (setRow_heap _ w.heap.size _ _ 61 _ HY2.out) Tryd.underlying61 rfl (by kernel_rfl)) rfl ⟨by rw [HR.out]; rfl, below_setRow HB2.out (Nat.le_refl _) _⟩
        · have HR : Hid (wordL s i = .inr (⟨1, cutL s i k, 0, i⟩, k)) := by unfold wordL; rw [← HE.out, ← hkE2, if_neg h24]; exact rfl
          have hkn : k ≤ n := by omega
          have hsl := run_slice_string (P := Tryd.prog) (w := wr) 9 st .i64 .i64 (i : Nat) (k : Nat) Tryd.underlying9 (by omega) (by omega) (by omega)
          simp only [Int.toNat_natCast] at hsl
          have hex : st.extract i k = ⟨(cutL s i k).toArray⟩ := by rw [HST.out]; exact extract_cut s i k
          rw [hex] at hsl
          clear hkE2 hex
          go_wp2_with fail
          refine HLO.out.mono ?_
          rintro e w3 ⟨rfl, hw3⟩
          rw [hw3, hlo]
          clear hw3 w3
          go_wp2_with fail
          refine HDI.out.mono ?_
          rintro e w3 ⟨rfl, hw3⟩
          rw [hw3, hdi]
          clear hw3 w3
          go_wp2_with (refine wpList_store_row rfl 61 _ _ rfl w.heap.size #[.int .u8 1, .string ⟨(cutL s i k).toArray⟩, .int .i64 0, .int .i64 (i : Nat), .int .i64 (k : Nat), .int .i64 0, .int .i64 0] rfl rfl 61 _ HY.out (by kernel_rfl) (by kernel_rfl) (by kernel_rfl) ?_)
          refine bodyPost_ret (results_cell_row rfl _ _ w.heap.size 61 #[.int .u8 1, .string ⟨(cutL s i k).toArray⟩, .int .i64 0, .int .i64 (i : Nat), .int .i64 (k : Nat), .int .i64 0, .int .i64 0] (0, 0) _ rfl (setRow_heap _ w.heap.size _ _ 61 _ HY.out) Tryd.underlying61 rfl (by kernel_rfl)) rfl ⟨by rw [HR.out]; rfl, below_setRow HBW.out (Nat.le_refl _) _⟩
    · have hkE2 : k = E := by omega
      have hbw : Below w.heap.size w wr := by rw [HX.out.2]; exact (Below.refl _ _).alloc (Nat.le_refl _) _
      have HBW := Lib.hid hbw
      have hy : Blk wr w.heap.size 61 #[.int .u8 0, .string ⟨#[]⟩, .int .i64 0, .int .i64 0, .int .i64 0, .int .i64 0, .int .i64 0] := by rw [HX.out.2]; exact Blk.new w 61 _
      have HY := Lib.hid hy
      have hszr : w.heap.size < wr.heap.size := hy.lt
      clear hbw hy
      by_cases h24 : 24 < k - i
      · have HR : Hid (wordL s i = .inl (i, 2)) := by unfold wordL; rw [← HE.out, ← hkE2, if_pos h24]; exact rfl
        clear hkE2
        go_wp2_with fail
        refine (wrong_any i 2 wr).mono ?_
        rintro e w2 ⟨rfl, hb2⟩
        unfold told toldV
        have HB2 := Lib.hid (HBW.out.trans (hb2.mono HBW.out.size))
        have HY2 : Hid (Blk w2 w.heap.size 61 #[.int .u8 0, .string ⟨#[]⟩, .int .i64 0, .int .i64 0, .int .i64 0, .int .i64 0, .int .i64 0]) := (hb2.block _ hszr).trans HY.out
        clear hb2
        go_wp2_with (refine wpList_store_row rfl 61 _ _ rfl w.heap.size #[.int .u8 0, .string ⟨#[]⟩, .int .i64 0, .int .i64 0, .int .i64 0, .int .i64 (i : Nat), .int .i64 2] rfl rfl 61 _ HY2.out (by kernel_rfl) (by kernel_rfl) (by kernel_rfl) ?_)
        refine bodyPost_ret (results_cell_row rfl _ _ w.heap.size 61 #[.int .u8 0, .string ⟨#[]⟩, .int .i64 0, .int .i64 0, .int .i64 0, .int .i64 (i : Nat), .int .i64 2] (0, 0) _ rfl (setRow_heap _ w.heap.size _ _ 61 _ HY2.out) Tryd.underlying61 rfl (by kernel_rfl)) rfl ⟨by rw [HR.out]; rfl, below_setRow HB2.out (Nat.le_refl _) _⟩
      · have HR : Hid (wordL s i = .inr (⟨1, cutL s i k, 0, i⟩, k)) := by unfold wordL; rw [← HE.out, ← hkE2, if_neg h24]; exact rfl
        have hkn : k ≤ n := by omega
        have hsl := run_slice_string (P := Tryd.prog) (w := wr) 9 st .i64 .i64 (i : Nat) (k : Nat) Tryd.underlying9 (by omega) (by omega) (by omega)
        simp only [Int.toNat_natCast] at hsl
        have hex : st.extract i k = ⟨(cutL s i k).toArray⟩ := by rw [HST.out]; exact extract_cut s i k
        rw [hex] at hsl
        clear hkE2 hex
        go_wp2_with (refine wpList_store_row rfl 61 _ _ rfl w.heap.size #[.int .u8 1, .string ⟨(cutL s i k).toArray⟩, .int .i64 0, .int .i64 (i : Nat), .int .i64 (k : Nat), .int .i64 0, .int .i64 0] rfl rfl 61 _ HY.out (by kernel_rfl) (by kernel_rfl) (by kernel_rfl) ?_)
        refine bodyPost_ret (results_cell_row rfl _ _ w.heap.size 61 #[.int .u8 1, .string ⟨(cutL s i k).toArray⟩, .int .i64 0, .int .i64 (i : Nat), .int .i64 (k : Nat), .int .i64 0, .int .i64 0] (0, 0) _ rfl (setRow_heap _ w.heap.size _ _ 61 _ HY.out) Tryd.underlying61 rfl (by kernel_rfl)) rfl ⟨by rw [HR.out]; rfl, below_setRow HBW.out (Nat.le_refl _) _⟩
end Go.Proofs.YtlfkiaphmifelaaDoor
