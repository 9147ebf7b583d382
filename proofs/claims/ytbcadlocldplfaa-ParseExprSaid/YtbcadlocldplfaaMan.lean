/- Contract of the document's number. And what follows from it. -/
import Derived.Laws.CopyOwn
import Derived.WalkLawsBesides
import Derived.Deep.QuietTactic
import Derived.BigQuiet
import Derived.Test.YtbcadlocldplfaaMae
import Derived.Test.YtbcadlocldplfaaMam
set_option linter.unusedSimpArgs false
set_option linter.unusedVariables false
namespace Go.Proofs.Ytbcadlocldplfaa
open Go.RowKit

set_option maxHeartbeats 8000000 in
theorem refNumber_any (s : List UInt8) (i : Nat) (c0 : UInt8) (hs : s.length ≤ 100000) (hc0 : s[i]? = some c0) (hd0 : digB c0 = true) (w : World) :
    Calls Try.prog 70 #[.string ⟨s.toArray⟩, .int .i64 (i : Nat)] w (ToldPost w (numT s i)) := by
  obtain ⟨st, hst⟩ : ∃ st : ByteArray, st = ⟨s.toArray⟩ := ⟨_, rfl⟩
  have hsz : st.size = s.length := by rw [hst]; rfl
  obtain ⟨n, hn⟩ : ∃ n, n = s.length := ⟨_, rfl⟩
  obtain ⟨E, hE⟩ : ∃ E, E = scan digB s i := ⟨_, rfl⟩
  have hil : i < s.length := (List.getElem?_eq_some_iff.1 hc0).1
  have hsi : s[i] = c0 := by have h := hc0; rw [List.getElem?_eq_getElem hil] at h; injection h
  have hEn : E ≤ n := by rw [hE, hn]; exact scan_le _ _ (by omega)
  have hiE : i + 1 ≤ E := by rw [hE, scan_step digB s hil (by rw [hsi]; exact hd0)]; exact scan_ge _ _ _
  have hist0 : i < st.size := by omega
  obtain ⟨v0, hv0⟩ : ∃ v, v = c0.toNat := ⟨_, rfl⟩
  have hg0 : st[i].toNat = v0 := by rw [hv0, ← hsi, st_get hst hist0 hil]
  have hv0l : v0 < 256 := by rw [hv0]; exact UInt8.toNat_lt _
  have HC48 : Hid (s[i]? = some 48 ↔ v0 = 48) := by
    rw [hc0, hv0]
    constructor
    · intro h; injection h with h; rw [h]; rfl
    · intro h; exact congrArg some (UInt8.toNat_inj.1 (by rw [h]; rfl))
  rw [← hst]
  rw [← hn] at hsz hs hil
  have HST := Lib.hid hst
  have HN := Lib.hid hn
  have HE := Lib.hid hE
  clear hst hn hE hsi hc0 hd0 hv0
  go_enter Try.func70, Try.ntmps70
  go_wp2_with fail
  go_loopw [5] (fun s5 wr => (∃ k : Nat, s5 = .int .i64 k ∧ i ≤ k ∧ k ≤ E ∧ scan digB s k = E) ∧ wr = w.alloc (.cells #[.int .u8 0, .string ⟨#[]⟩, .int .i64 0, .int .i64 0, .int .i64 0, .int .i64 0, .int .i64 0] 79)) (fun s5 _ => n - (intOf s5).toNat)
  case atStart => exact ⟨⟨i, rfl, Nat.le_refl _, by omega, HE.out.symm⟩, rfl⟩
  case round =>
    obtain ⟨⟨k, rfl, hik, hkE, hsc⟩, hw⟩ := hrel
    have HX := Lib.hid (And.intro hsc hw)
    clear hsc hw
    by_cases hlt : k < n
    · have hks : k < s.length := by rw [← HN.out]; exact hlt
      obtain ⟨ch, hch⟩ : ∃ c, c = s[k] := ⟨_, rfl⟩
      have hkst : k < st.size := by omega
      have hg : st[k] = ch := by rw [hch]; exact st_get HST.out hkst hks
      have HCK : Hid (s[k]? = some ch) := by rw [hch]; exact List.getElem?_eq_getElem hks
      have HSP : Hid (digB ch = false → k = E) := fun hd => by rw [← HX.out.1]; exact (scan_stop _ _ hks (by rw [← hch]; exact hd)).symm
      have HST2 : Hid (digB ch = true → scan digB s (k + 1) = E) := fun hd => by rw [← HX.out.1]; exact (scan_step _ _ hks (by rw [← hch]; exact hd)).symm
      clear hch hks
      have hcl : ch.toNat < 256 := UInt8.toNat_lt _
      have HDI := Lib.hid (dig_any ch wr)
      have HLO := Lib.hid (low_any ch wr)
      have HIN : Hid (innB ch = (lowB ch || digB ch || decide (ch.toNat = 95))) := rfl
      obtain ⟨cv, hcv⟩ : ∃ v, v = ch.toNat := ⟨_, rfl⟩
      have hg2 : st[k].toNat = cv := by rw [hg, hcv]
      rw [← hcv] at HDI HLO HIN hcl
      clear hg hcv
      cases hdi : digB ch
      · have hkE2 := HSP.out hdi
        have HDF := Lib.hid hdi
        have hbw : Below w.heap.size w wr := by rw [HX.out.2]; exact (Below.refl _ _).alloc (Nat.le_refl _) _
        have HBW := Lib.hid hbw
        have hy : Blk wr w.heap.size 79 #[.int .u8 0, .string ⟨#[]⟩, .int .i64 0, .int .i64 0, .int .i64 0, .int .i64 0, .int .i64 0] := by rw [HX.out.2]; exact Blk.new w 79 _
        have HY := Lib.hid hy
        have hszr : w.heap.size < wr.heap.size := hy.lt
        have HEK : Hid (scan digB s i = k) := by rw [← HE.out]; exact hkE2.symm
        have hik2 : i + 1 ≤ k := by omega
        clear hbw hy hkE2
        by_cases hz : v0 = 48 ∧ i + 1 < k
        · obtain ⟨hz1, hz2⟩ := hz
          have HR : Hid (numT s i = .inl (i + 1, 9)) := by unfold numT; rw [numL_zero (HC48.out.2 hz1) (by rw [HEK.out]; exact hz2)]; exact rfl
          have hb0 : ((v0 : Int) == 48) = true := by rw [hz1]; rfl
          have hb1 : decide ((i : Int) + 1 < (k : Int)) = true := decide_eq_true (by omega)
          clear hz1
          go_wp2_with fail
          refine HDI.out.mono ?_
          rintro e w3 ⟨rfl, hw3⟩
          rw [hw3, hdi]
          clear hw3 w3
          go_wp2_with fail
          refine (wrong_any (i + 1) 9 wr).mono ?_
          rintro e w2 ⟨rfl, hb2⟩
          unfold told toldV
          have HB2 := Lib.hid (HBW.out.trans (hb2.mono HBW.out.size))
          have HY2 : Hid (Blk w2 w.heap.size 79 #[.int .u8 0, .string ⟨#[]⟩, .int .i64 0, .int .i64 0, .int .i64 0, .int .i64 0, .int .i64 0]) := (hb2.block _ hszr).trans HY.out
          clear hb2
          go_wp2_with (refine wpList_store_row rfl 79 _ _ rfl w.heap.size #[.int .u8 0, .string ⟨#[]⟩, .int .i64 0, .int .i64 0, .int .i64 0, .int .i64 (i + 1 : Nat), .int .i64 9] rfl rfl 79 _ HY2.out (by kernel_rfl) (by kernel_rfl) (by kernel_rfl) ?_)
          refine bodyPost_ret (results_cell_row rfl _ _ w.heap.size 79 #[.int .u8 0, .string ⟨#[]⟩, .int .i64 0, .int .i64 0, .int .i64 0, .int .i64 (i + 1 : Nat), .int .i64 9] (0, 0) _ rfl (setRow_heap _ w.heap.size _ _ 79 _ HY2.out) Try.underlying79 rfl (by kernel_rfl)) rfl ⟨by rw [HR.out]; rfl, below_setRow HB2.out (Nat.le_refl _) _⟩
        · have HZ : Hid (¬ (s[i]? = some 48 ∧ i + 1 < scan digB s i)) := fun h => hz ⟨HC48.out.1 h.1, by have := h.2; rw [HEK.out] at this; exact this⟩
          have H48 : Hid (i + 1 < k → s[i]? ≠ some 48) := fun h1 h2 => hz ⟨HC48.out.1 h2, h1⟩
          by_cases hlong : 9223372036854775807 < val (cutL s i k)
          · have HR : Hid (numT s i = .inl (i, 2)) := by unfold numT; rw [numL_long HZ.out (by rw [HEK.out]; exact hlong)]; exact rfl
            have hle : 19 ≤ k - i := by
              rcases Nat.lt_or_ge (k - i) 19 with h | h
              · have := big_short HEK.out h; omega
              · exact h
            have hb0 : ((v0 : Int) == 48) = false := by rw [beq_eq_false_iff_ne]; intro h; exact hz ⟨by omega, by omega⟩
            clear hz
            by_cases h19 : 19 < k - i
            · have hb19 : decide ((19 : Int) < (k : Int) - (i : Int)) = true := decide_eq_true (by omega)
              clear hlong
              go_wp2_with fail
              refine HDI.out.mono ?_
              rintro e w3 ⟨rfl, hw3⟩
              rw [hw3, hdi]
              clear hw3 w3
              go_wp2_with fail
              refine (wrong_any (i) 2 wr).mono ?_
              rintro e w2 ⟨rfl, hb2⟩
              unfold told toldV
              have HB2 := Lib.hid (HBW.out.trans (hb2.mono HBW.out.size))
              have HY2 : Hid (Blk w2 w.heap.size 79 #[.int .u8 0, .string ⟨#[]⟩, .int .i64 0, .int .i64 0, .int .i64 0, .int .i64 0, .int .i64 0]) := (hb2.block _ hszr).trans HY.out
              clear hb2
              go_wp2_with (refine wpList_store_row rfl 79 _ _ rfl w.heap.size #[.int .u8 0, .string ⟨#[]⟩, .int .i64 0, .int .i64 0, .int .i64 0, .int .i64 (i : Nat), .int .i64 2] rfl rfl 79 _ HY2.out (by kernel_rfl) (by kernel_rfl) (by kernel_rfl) ?_)
              refine bodyPost_ret (results_cell_row rfl _ _ w.heap.size 79 #[.int .u8 0, .string ⟨#[]⟩, .int .i64 0, .int .i64 0, .int .i64 0, .int .i64 (i : Nat), .int .i64 2] (0, 0) _ rfl (setRow_heap _ w.heap.size _ _ 79 _ HY2.out) Try.underlying79 rfl (by kernel_rfl)) rfl ⟨by rw [HR.out]; rfl, below_setRow HB2.out (Nat.le_refl _) _⟩
            · have HBG : Hid (bigB (cutL s i k) = true) := by rw [big_19 HEK.out (by omega)]; exact decide_eq_true hlong
              clear hlong
              have hbb : Op.bytesLess (cutL s i k) most19 = false ∧ (cutL s i k == most19) = false := by have h := HBG.out; unfold bigB at h; simpa [Bool.or_eq_false_iff] using h
              obtain ⟨hbl, hbe⟩ := hbb
              have hb19 : decide ((19 : Int) < (k : Int) - (i : Int)) = false := decide_eq_false (by omega)
              have hb20 : ((k : Int) - (i : Int) == 19) = true := by rw [beq_iff_eq]; omega
              have hsl := run_slice_string (P := Try.prog) (w := wr) 9 st .i64 .i64 (i : Nat) (k : Nat) Try.underlying9 (by omega) (by omega) (by omega)
              simp only [Int.toNat_natCast] at hsl
              have hex : st.extract i k = ⟨(cutL s i k).toArray⟩ := by rw [HST.out]; exact extract_cut s i k
              rw [hex] at hsl
              clear hex
              go_wp2_with fail
              refine HDI.out.mono ?_
              rintro e w3 ⟨rfl, hw3⟩
              rw [hw3, hdi]
              clear hw3 w3
              go_wp2_with fail
              refine (wrong_any (i) 2 wr).mono ?_
              rintro e w2 ⟨rfl, hb2⟩
              unfold told toldV
              have HB2 := Lib.hid (HBW.out.trans (hb2.mono HBW.out.size))
              have HY2 : Hid (Blk w2 w.heap.size 79 #[.int .u8 0, .string ⟨#[]⟩, .int .i64 0, .int .i64 0, .int .i64 0, .int .i64 0, .int .i64 0]) := (hb2.block _ hszr).trans HY.out
              clear hb2
              go_wp2_with (refine wpList_store_row rfl 79 _ _ rfl w.heap.size #[.int .u8 0, .string ⟨#[]⟩, .int .i64 0, .int .i64 0, .int .i64 0, .int .i64 (i : Nat), .int .i64 2] rfl rfl 79 _ HY2.out (by kernel_rfl) (by kernel_rfl) (by kernel_rfl) ?_)
              refine bodyPost_ret (results_cell_row rfl _ _ w.heap.size 79 #[.int .u8 0, .string ⟨#[]⟩, .int .i64 0, .int .i64 0, .int .i64 0, .int .i64 (i : Nat), .int .i64 2] (0, 0) _ rfl (setRow_heap _ w.heap.size _ _ 79 _ HY2.out) Try.underlying79 rfl (by kernel_rfl)) rfl ⟨by rw [HR.out]; rfl, below_setRow HB2.out (Nat.le_refl _) _⟩
          · have hvm : val (cutL s i k) ≤ 9223372036854775807 := by omega
            have HVM := Lib.hid hvm
            clear hvm
            have h19 : k - i ≤ 19 := by
              rcases Nat.lt_or_ge 19 (k - i) with h | h
              · have := big_long HEK.out (H48.out (by omega)) h; omega
              · exact h
            have HBG : Hid (k - i = 19 → bigB (cutL s i k) = false) := fun h => by rw [big_19 HEK.out h]; exact decide_eq_false hlong
            clear hlong
            have hb19 : decide ((19 : Int) < (k : Int) - (i : Int)) = false := decide_eq_false (by omega)
            by_cases h0 : v0 = 48
            · have hki : k = i + 1 := by rcases Nat.lt_or_ge (i + 1) k with h | h; exact absurd ⟨h0, h⟩ hz; omega
              have hb0 : ((v0 : Int) == 48) = true := by rw [h0]; rfl
              have hb1 : decide ((i : Int) + 1 < (k : Int)) = false := decide_eq_false (by omega)
              have hb20 : ((k : Int) - (i : Int) == 19) = false := by rw [beq_eq_false_iff_ne]; omega
              clear hz h0 hki
              by_cases hin : innB ch = true
              · have HR : Hid (numT s i = .inl (k, 9)) := by
                  unfold numT; rw [numL_next HEK.out H48.out HVM.out (by rw [← HN.out]; exact hlt)]
                  have hsk : s[k]'(by rw [← HN.out]; exact hlt) = ch := by have h := HCK.out; rw [List.getElem?_eq_getElem (by rw [← HN.out]; exact hlt)] at h; injection h
                  rw [hsk, hin]; exact rfl
                rw [HIN.out, HDF.out] at hin
                cases hlo : lowB ch
                · have h95 : cv = 95 := by rw [hlo] at hin; simpa using hin
                  have hb95 : ((cv : Int) == 95) = true := by rw [h95]; rfl
                  clear hin h95
                  go_wp2_with fail
                  refine HDI.out.mono ?_
                  rintro e w3 ⟨rfl, hw3⟩
                  rw [hw3, hdi]
                  clear hw3 w3
                  go_wp2_with fail
                  refine HLO.out.mono ?_
                  rintro e w3 ⟨rfl, hw3⟩
                  rw [hw3, hlo]
                  clear hw3 w3
                  go_wp2_with fail
                  refine (wrong_any (k) 9 wr).mono ?_
                  rintro e w2 ⟨rfl, hb2⟩
                  unfold told toldV
                  have HB2 := Lib.hid (HBW.out.trans (hb2.mono HBW.out.size))
                  have HY2 : Hid (Blk w2 w.heap.size 79 #[.int .u8 0, .string ⟨#[]⟩, .int .i64 0, .int .i64 0, .int .i64 0, .int .i64 0, .int .i64 0]) := (hb2.block _ hszr).trans HY.out
                  clear hb2
                  go_wp2_with (refine wpList_store_row rfl 79 _ _ rfl w.heap.size #[.int .u8 0, .string ⟨#[]⟩, .int .i64 0, .int .i64 0, .int .i64 0, .int .i64 (k : Nat), .int .i64 9] rfl rfl 79 _ HY2.out (by kernel_rfl) (by kernel_rfl) (by kernel_rfl) ?_)
                  refine bodyPost_ret (results_cell_row rfl _ _ w.heap.size 79 #[.int .u8 0, .string ⟨#[]⟩, .int .i64 0, .int .i64 0, .int .i64 0, .int .i64 (k : Nat), .int .i64 9] (0, 0) _ rfl (setRow_heap _ w.heap.size _ _ 79 _ HY2.out) Try.underlying79 rfl (by kernel_rfl)) rfl ⟨by rw [HR.out]; rfl, below_setRow HB2.out (Nat.le_refl _) _⟩
                · clear hin
                  go_wp2_with fail
                  refine HDI.out.mono ?_
                  rintro e w3 ⟨rfl, hw3⟩
                  rw [hw3, hdi]
                  clear hw3 w3
                  go_wp2_with fail
                  refine HLO.out.mono ?_
                  rintro e w3 ⟨rfl, hw3⟩
                  rw [hw3, hlo]
                  clear hw3 w3
                  go_wp2_with fail
                  refine (wrong_any (k) 9 wr).mono ?_
                  rintro e w2 ⟨rfl, hb2⟩
                  unfold told toldV
                  have HB2 := Lib.hid (HBW.out.trans (hb2.mono HBW.out.size))
                  have HY2 : Hid (Blk w2 w.heap.size 79 #[.int .u8 0, .string ⟨#[]⟩, .int .i64 0, .int .i64 0, .int .i64 0, .int .i64 0, .int .i64 0]) := (hb2.block _ hszr).trans HY.out
                  clear hb2
                  go_wp2_with (refine wpList_store_row rfl 79 _ _ rfl w.heap.size #[.int .u8 0, .string ⟨#[]⟩, .int .i64 0, .int .i64 0, .int .i64 0, .int .i64 (k : Nat), .int .i64 9] rfl rfl 79 _ HY2.out (by kernel_rfl) (by kernel_rfl) (by kernel_rfl) ?_)
                  refine bodyPost_ret (results_cell_row rfl _ _ w.heap.size 79 #[.int .u8 0, .string ⟨#[]⟩, .int .i64 0, .int .i64 0, .int .i64 0, .int .i64 (k : Nat), .int .i64 9] (0, 0) _ rfl (setRow_heap _ w.heap.size _ _ 79 _ HY2.out) Try.underlying79 rfl (by kernel_rfl)) rfl ⟨by rw [HR.out]; rfl, below_setRow HB2.out (Nat.le_refl _) _⟩
              · have hin : innB ch = false := by simpa using hin
                have HR : Hid (numT s i = .inr (⟨2, [], val (cutL s i k), i⟩, k)) := by
                  unfold numT; rw [numL_next HEK.out H48.out HVM.out (by rw [← HN.out]; exact hlt)]
                  have hsk : s[k]'(by rw [← HN.out]; exact hlt) = ch := by have h := HCK.out; rw [List.getElem?_eq_getElem (by rw [← HN.out]; exact hlt)] at h; injection h
                  rw [hsk, hin]; exact rfl
                rw [HIN.out, HDF.out] at hin
                have hlo : lowB ch = false := by cases h : lowB ch <;> simp_all
                have h95 : ¬ cv = 95 := by rw [hlo] at hin; simpa using hin
                have hb95 : ((cv : Int) == 95) = false := by rw [beq_eq_false_iff_ne]; omega
                clear hin h95
                go_wp2_with fail
                refine HDI.out.mono ?_
                rintro e w3 ⟨rfl, hw3⟩
                rw [hw3, hdi]
                clear hw3 w3
                go_wp2_with fail
                refine HLO.out.mono ?_
                rintro e w3 ⟨rfl, hw3⟩
                rw [hw3, hlo]
                clear hw3 w3
                go_wp2_with fail
                go_loopw [6, 7] (fun s6 s7 wx => wx = wr ∧ ∃ (j x : Nat), s6 = .int .i64 x ∧ s7 = .int .i64 j ∧ i ≤ j ∧ j ≤ k ∧ x = val (cutL s i j)) (fun _ s7 _ => k - (intOf s7).toNat)
                case atStart => exact ⟨rfl, i, 0, rfl, rfl, Nat.le_refl _, by omega, by rw [cut_self]; rfl⟩
                case round =>
                  obtain ⟨rfl, j, x, rfl, rfl, hij, hjk, hx⟩ := hrel
                  have HJX := Lib.hid hx
                  clear hx
                  by_cases hjlt : j < k
                  · have hjs : j < s.length := by rw [← HN.out]; omega
                    obtain ⟨cj, hcj⟩ : ∃ c, c = s[j] := ⟨_, rfl⟩
                    have hjst : j < st.size := by omega
                    have hgj : st[j] = cj := by rw [hcj]; exact st_get HST.out hjst hjs
                    have hdj : digB cj = true := by
                      refine cut_all digB s i cj ?_
                      rw [HEK.out, cut_more s (i := i) (k := j) (e := k) hij hjk (by rw [← HN.out]; omega), cut_more s (i := j) (k := j + 1) (e := k) (by omega) (by omega) (by rw [← HN.out]; omega), cut_next s (Nat.le_refl j) hjs, cut_self, hcj]
                      simp
                    have hd2 : 48 ≤ cj.toNat ∧ cj.toNat ≤ 57 := by unfold digB at hdj; simpa using hdj
                    obtain ⟨hd3, hd4⟩ := hd2
                    have HNV : Hid (val (cutL s i (j + 1)) = 10 * x + (cj.toNat - 48)) := by rw [cut_next s hij hjs, val_snoc, ← hcj, ← HJX.out]; exact rfl
                    have hnx : 10 * x + (cj.toNat - 48) ≤ 9223372036854775807 := by
                      have h1 := val_mono (cutL s i (j + 1)) (cutL s (j + 1) k)
                      rw [← cut_more s (i := i) (k := j + 1) (e := k) (by omega) (by omega) (by rw [← HN.out]; omega), HNV.out] at h1
                      exact Nat.le_trans h1 HVM.out
                    obtain ⟨dj, hdj2⟩ : ∃ v, v = cj.toNat := ⟨_, rfl⟩
                    have hgj2 : st[j].toNat = dj := by rw [hgj, hdj2]
                    rw [← hdj2] at hd3 hd4 hnx HNV
                    clear hcj hjs hgj hdj hdj2
                    go_wp2_with fail
                    go_roundw
                    case rel => exact ⟨trivial, j + 1, 10 * x + (dj - 48), congrArg (Value.int .i64) (by omega), by go_num, by omega, by omega, HNV.out.symm⟩
                    case measure => simp [intOf]; omega
                  · obtain rfl : j = k := by omega
                    go_wp2_with (refine wpList_store_row rfl 79 _ _ rfl w.heap.size #[.int .u8 2, .string ⟨#[]⟩, .int .i64 (x : Nat), .int .i64 (i : Nat), .int .i64 (j : Nat), .int .i64 0, .int .i64 0] rfl rfl 79 _ HY.out (by kernel_rfl) (by kernel_rfl) (by kernel_rfl) ?_)
                    refine bodyPost_ret (results_cell_row rfl _ _ w.heap.size 79 #[.int .u8 2, .string ⟨#[]⟩, .int .i64 (x : Nat), .int .i64 (i : Nat), .int .i64 (j : Nat), .int .i64 0, .int .i64 0] (0, 0) _ rfl (setRow_heap _ w.heap.size _ _ 79 _ HY.out) Try.underlying79 rfl (by kernel_rfl)) rfl ⟨by rw [HR.out, HJX.out]; rfl, below_setRow HBW.out (Nat.le_refl _) _⟩
            · have hb0 : ((v0 : Int) == 48) = false := by rw [beq_eq_false_iff_ne]; omega
              clear hz h0
              by_cases h20 : k - i = 19
              · have hbq : Op.bytesLess (cutL s i k) most19 = true ∨ (cutL s i k == most19) = true := by have h := HBG.out h20; unfold bigB at h; revert h; cases Op.bytesLess (cutL s i k) most19 <;> cases (cutL s i k == most19) <;> simp
                have HBG2 := Lib.hid hbq
                clear HBG hbq
                have hb20 : ((k : Int) - (i : Int) == 19) = true := by rw [beq_iff_eq]; omega
                have hsl := run_slice_string (P := Try.prog) (w := wr) 9 st .i64 .i64 (i : Nat) (k : Nat) Try.underlying9 (by omega) (by omega) (by omega)
                simp only [Int.toNat_natCast] at hsl
                have hex : st.extract i k = ⟨(cutL s i k).toArray⟩ := by rw [HST.out]; exact extract_cut s i k
                rw [hex] at hsl
                clear hex
                clear h20
                rcases HBG2.out with hbl | hbl
                · by_cases hin : innB ch = true
                  · have HR : Hid (numT s i = .inl (k, 9)) := by
                      unfold numT; rw [numL_next HEK.out H48.out HVM.out (by rw [← HN.out]; exact hlt)]
                      have hsk : s[k]'(by rw [← HN.out]; exact hlt) = ch := by have h := HCK.out; rw [List.getElem?_eq_getElem (by rw [← HN.out]; exact hlt)] at h; injection h
                      rw [hsk, hin]; exact rfl
                    rw [HIN.out, HDF.out] at hin
                    cases hlo : lowB ch
                    · have h95 : cv = 95 := by rw [hlo] at hin; simpa using hin
                      have hb95 : ((cv : Int) == 95) = true := by rw [h95]; rfl
                      clear hin h95
                      go_wp2_with fail
                      refine HDI.out.mono ?_
                      rintro e w3 ⟨rfl, hw3⟩
                      rw [hw3, hdi]
                      clear hw3 w3
                      go_wp2_with fail
                      refine HLO.out.mono ?_
                      rintro e w3 ⟨rfl, hw3⟩
                      rw [hw3, hlo]
                      clear hw3 w3
                      go_wp2_with fail
                      refine (wrong_any (k) 9 wr).mono ?_
                      rintro e w2 ⟨rfl, hb2⟩
                      unfold told toldV
                      have HB2 := Lib.hid (HBW.out.trans (hb2.mono HBW.out.size))
                      have HY2 : Hid (Blk w2 w.heap.size 79 #[.int .u8 0, .string ⟨#[]⟩, .int .i64 0, .int .i64 0, .int .i64 0, .int .i64 0, .int .i64 0]) := (hb2.block _ hszr).trans HY.out
                      clear hb2
                      go_wp2_with (refine wpList_store_row rfl 79 _ _ rfl w.heap.size #[.int .u8 0, .string ⟨#[]⟩, .int .i64 0, .int .i64 0, .int .i64 0, .int .i64 (k : Nat), .int .i64 9] rfl rfl 79 _ HY2.out (by kernel_rfl) (by kernel_rfl) (by kernel_rfl) ?_)
                      refine bodyPost_ret (results_cell_row rfl _ _ w.heap.size 79 #[.int .u8 0, .string ⟨#[]⟩, .int .i64 0, .int .i64 0, .int .i64 0, .int .i64 (k : Nat), .int .i64 9] (0, 0) _ rfl (setRow_heap _ w.heap.size _ _ 79 _ HY2.out) Try.underlying79 rfl (by kernel_rfl)) rfl ⟨by rw [HR.out]; rfl, below_setRow HB2.out (Nat.le_refl _) _⟩
                    · clear hin
                      go_wp2_with fail
                      refine HDI.out.mono ?_
                      rintro e w3 ⟨rfl, hw3⟩
                      rw [hw3, hdi]
                      clear hw3 w3
                      go_wp2_with fail
                      refine HLO.out.mono ?_
                      rintro e w3 ⟨rfl, hw3⟩
                      rw [hw3, hlo]
                      clear hw3 w3
                      go_wp2_with fail
                      refine (wrong_any (k) 9 wr).mono ?_
                      rintro e w2 ⟨rfl, hb2⟩
                      unfold told toldV
                      have HB2 := Lib.hid (HBW.out.trans (hb2.mono HBW.out.size))
                      have HY2 : Hid (Blk w2 w.heap.size 79 #[.int .u8 0, .string ⟨#[]⟩, .int .i64 0, .int .i64 0, .int .i64 0, .int .i64 0, .int .i64 0]) := (hb2.block _ hszr).trans HY.out
                      clear hb2
                      go_wp2_with (refine wpList_store_row rfl 79 _ _ rfl w.heap.size #[.int .u8 0, .string ⟨#[]⟩, .int .i64 0, .int .i64 0, .int .i64 0, .int .i64 (k : Nat), .int .i64 9] rfl rfl 79 _ HY2.out (by kernel_rfl) (by kernel_rfl) (by kernel_rfl) ?_)
                      refine bodyPost_ret (results_cell_row rfl _ _ w.heap.size 79 #[.int .u8 0, .string ⟨#[]⟩, .int .i64 0, .int .i64 0, .int .i64 0, .int .i64 (k : Nat), .int .i64 9] (0, 0) _ rfl (setRow_heap _ w.heap.size _ _ 79 _ HY2.out) Try.underlying79 rfl (by kernel_rfl)) rfl ⟨by rw [HR.out]; rfl, below_setRow HB2.out (Nat.le_refl _) _⟩
                  · have hin : innB ch = false := by simpa using hin
                    have HR : Hid (numT s i = .inr (⟨2, [], val (cutL s i k), i⟩, k)) := by
                      unfold numT; rw [numL_next HEK.out H48.out HVM.out (by rw [← HN.out]; exact hlt)]
                      have hsk : s[k]'(by rw [← HN.out]; exact hlt) = ch := by have h := HCK.out; rw [List.getElem?_eq_getElem (by rw [← HN.out]; exact hlt)] at h; injection h
                      rw [hsk, hin]; exact rfl
                    rw [HIN.out, HDF.out] at hin
                    have hlo : lowB ch = false := by cases h : lowB ch <;> simp_all
                    have h95 : ¬ cv = 95 := by rw [hlo] at hin; simpa using hin
                    have hb95 : ((cv : Int) == 95) = false := by rw [beq_eq_false_iff_ne]; omega
                    clear hin h95
                    go_wp2_with fail
                    refine HDI.out.mono ?_
                    rintro e w3 ⟨rfl, hw3⟩
                    rw [hw3, hdi]
                    clear hw3 w3
                    go_wp2_with fail
                    refine HLO.out.mono ?_
                    rintro e w3 ⟨rfl, hw3⟩
                    rw [hw3, hlo]
                    clear hw3 w3
                    go_wp2_with fail
                    go_loopw [6, 7] (fun s6 s7 wx => wx = wr ∧ ∃ (j x : Nat), s6 = .int .i64 x ∧ s7 = .int .i64 j ∧ i ≤ j ∧ j ≤ k ∧ x = val (cutL s i j)) (fun _ s7 _ => k - (intOf s7).toNat)
                    case atStart => exact ⟨rfl, i, 0, rfl, rfl, Nat.le_refl _, by omega, by rw [cut_self]; rfl⟩
                    case round =>
                      obtain ⟨rfl, j, x, rfl, rfl, hij, hjk, hx⟩ := hrel
                      have HJX := Lib.hid hx
                      clear hx
                      by_cases hjlt : j < k
                      · have hjs : j < s.length := by rw [← HN.out]; omega
                        obtain ⟨cj, hcj⟩ : ∃ c, c = s[j] := ⟨_, rfl⟩
                        have hjst : j < st.size := by omega
                        have hgj : st[j] = cj := by rw [hcj]; exact st_get HST.out hjst hjs
                        have hdj : digB cj = true := by
                          refine cut_all digB s i cj ?_
                          rw [HEK.out, cut_more s (i := i) (k := j) (e := k) hij hjk (by rw [← HN.out]; omega), cut_more s (i := j) (k := j + 1) (e := k) (by omega) (by omega) (by rw [← HN.out]; omega), cut_next s (Nat.le_refl j) hjs, cut_self, hcj]
                          simp
                        have hd2 : 48 ≤ cj.toNat ∧ cj.toNat ≤ 57 := by unfold digB at hdj; simpa using hdj
                        obtain ⟨hd3, hd4⟩ := hd2
                        have HNV : Hid (val (cutL s i (j + 1)) = 10 * x + (cj.toNat - 48)) := by rw [cut_next s hij hjs, val_snoc, ← hcj, ← HJX.out]; exact rfl
                        have hnx : 10 * x + (cj.toNat - 48) ≤ 9223372036854775807 := by
                          have h1 := val_mono (cutL s i (j + 1)) (cutL s (j + 1) k)
                          rw [← cut_more s (i := i) (k := j + 1) (e := k) (by omega) (by omega) (by rw [← HN.out]; omega), HNV.out] at h1
                          exact Nat.le_trans h1 HVM.out
                        obtain ⟨dj, hdj2⟩ : ∃ v, v = cj.toNat := ⟨_, rfl⟩
                        have hgj2 : st[j].toNat = dj := by rw [hgj, hdj2]
                        rw [← hdj2] at hd3 hd4 hnx HNV
                        clear hcj hjs hgj hdj hdj2
                        go_wp2_with fail
                        go_roundw
                        case rel => exact ⟨trivial, j + 1, 10 * x + (dj - 48), congrArg (Value.int .i64) (by omega), by go_num, by omega, by omega, HNV.out.symm⟩
                        case measure => simp [intOf]; omega
                      · obtain rfl : j = k := by omega
                        go_wp2_with (refine wpList_store_row rfl 79 _ _ rfl w.heap.size #[.int .u8 2, .string ⟨#[]⟩, .int .i64 (x : Nat), .int .i64 (i : Nat), .int .i64 (j : Nat), .int .i64 0, .int .i64 0] rfl rfl 79 _ HY.out (by kernel_rfl) (by kernel_rfl) (by kernel_rfl) ?_)
                        refine bodyPost_ret (results_cell_row rfl _ _ w.heap.size 79 #[.int .u8 2, .string ⟨#[]⟩, .int .i64 (x : Nat), .int .i64 (i : Nat), .int .i64 (j : Nat), .int .i64 0, .int .i64 0] (0, 0) _ rfl (setRow_heap _ w.heap.size _ _ 79 _ HY.out) Try.underlying79 rfl (by kernel_rfl)) rfl ⟨by rw [HR.out, HJX.out]; rfl, below_setRow HBW.out (Nat.le_refl _) _⟩
                · by_cases hin : innB ch = true
                  · have HR : Hid (numT s i = .inl (k, 9)) := by
                      unfold numT; rw [numL_next HEK.out H48.out HVM.out (by rw [← HN.out]; exact hlt)]
                      have hsk : s[k]'(by rw [← HN.out]; exact hlt) = ch := by have h := HCK.out; rw [List.getElem?_eq_getElem (by rw [← HN.out]; exact hlt)] at h; injection h
                      rw [hsk, hin]; exact rfl
                    rw [HIN.out, HDF.out] at hin
                    cases hlo : lowB ch
                    · have h95 : cv = 95 := by rw [hlo] at hin; simpa using hin
                      have hb95 : ((cv : Int) == 95) = true := by rw [h95]; rfl
                      clear hin h95
                      go_wp2_with fail
                      refine HDI.out.mono ?_
                      rintro e w3 ⟨rfl, hw3⟩
                      rw [hw3, hdi]
                      clear hw3 w3
                      go_wp2_with fail
                      refine HLO.out.mono ?_
                      rintro e w3 ⟨rfl, hw3⟩
                      rw [hw3, hlo]
                      clear hw3 w3
                      go_wp2_with fail
                      refine (wrong_any (k) 9 wr).mono ?_
                      rintro e w2 ⟨rfl, hb2⟩
                      unfold told toldV
                      have HB2 := Lib.hid (HBW.out.trans (hb2.mono HBW.out.size))
                      have HY2 : Hid (Blk w2 w.heap.size 79 #[.int .u8 0, .string ⟨#[]⟩, .int .i64 0, .int .i64 0, .int .i64 0, .int .i64 0, .int .i64 0]) := (hb2.block _ hszr).trans HY.out
                      clear hb2
                      go_wp2_with (refine wpList_store_row rfl 79 _ _ rfl w.heap.size #[.int .u8 0, .string ⟨#[]⟩, .int .i64 0, .int .i64 0, .int .i64 0, .int .i64 (k : Nat), .int .i64 9] rfl rfl 79 _ HY2.out (by kernel_rfl) (by kernel_rfl) (by kernel_rfl) ?_)
                      refine bodyPost_ret (results_cell_row rfl _ _ w.heap.size 79 #[.int .u8 0, .string ⟨#[]⟩, .int .i64 0, .int .i64 0, .int .i64 0, .int .i64 (k : Nat), .int .i64 9] (0, 0) _ rfl (setRow_heap _ w.heap.size _ _ 79 _ HY2.out) Try.underlying79 rfl (by kernel_rfl)) rfl ⟨by rw [HR.out]; rfl, below_setRow HB2.out (Nat.le_refl _) _⟩
                    · clear hin
                      go_wp2_with fail
                      refine HDI.out.mono ?_
                      rintro e w3 ⟨rfl, hw3⟩
                      rw [hw3, hdi]
                      clear hw3 w3
                      go_wp2_with fail
                      refine HLO.out.mono ?_
                      rintro e w3 ⟨rfl, hw3⟩
                      rw [hw3, hlo]
                      clear hw3 w3
                      go_wp2_with fail
                      refine (wrong_any (k) 9 wr).mono ?_
                      rintro e w2 ⟨rfl, hb2⟩
                      unfold told toldV
                      have HB2 := Lib.hid (HBW.out.trans (hb2.mono HBW.out.size))
                      have HY2 : Hid (Blk w2 w.heap.size 79 #[.int .u8 0, .string ⟨#[]⟩, .int .i64 0, .int .i64 0, .int .i64 0, .int .i64 0, .int .i64 0]) := (hb2.block _ hszr).trans HY.out
                      clear hb2
                      go_wp2_with (refine wpList_store_row rfl 79 _ _ rfl w.heap.size #[.int .u8 0, .string ⟨#[]⟩, .int .i64 0, .int .i64 0, .int .i64 0, .int .i64 (k : Nat), .int .i64 9] rfl rfl 79 _ HY2.out (by kernel_rfl) (by kernel_rfl) (by kernel_rfl) ?_)
                      refine bodyPost_ret (results_cell_row rfl _ _ w.heap.size 79 #[.int .u8 0, .string ⟨#[]⟩, .int .i64 0, .int .i64 0, .int .i64 0, .int .i64 (k : Nat), .int .i64 9] (0, 0) _ rfl (setRow_heap _ w.heap.size _ _ 79 _ HY2.out) Try.underlying79 rfl (by kernel_rfl)) rfl ⟨by rw [HR.out]; rfl, below_setRow HB2.out (Nat.le_refl _) _⟩
                  · have hin : innB ch = false := by simpa using hin
                    have HR : Hid (numT s i = .inr (⟨2, [], val (cutL s i k), i⟩, k)) := by
                      unfold numT; rw [numL_next HEK.out H48.out HVM.out (by rw [← HN.out]; exact hlt)]
                      have hsk : s[k]'(by rw [← HN.out]; exact hlt) = ch := by have h := HCK.out; rw [List.getElem?_eq_getElem (by rw [← HN.out]; exact hlt)] at h; injection h
                      rw [hsk, hin]; exact rfl
                    rw [HIN.out, HDF.out] at hin
                    have hlo : lowB ch = false := by cases h : lowB ch <;> simp_all
                    have h95 : ¬ cv = 95 := by rw [hlo] at hin; simpa using hin
                    have hb95 : ((cv : Int) == 95) = false := by rw [beq_eq_false_iff_ne]; omega
                    clear hin h95
                    go_wp2_with fail
                    refine HDI.out.mono ?_
                    rintro e w3 ⟨rfl, hw3⟩
                    rw [hw3, hdi]
                    clear hw3 w3
                    go_wp2_with fail
                    refine HLO.out.mono ?_
                    rintro e w3 ⟨rfl, hw3⟩
                    rw [hw3, hlo]
                    clear hw3 w3
                    go_wp2_with fail
                    go_loopw [6, 7] (fun s6 s7 wx => wx = wr ∧ ∃ (j x : Nat), s6 = .int .i64 x ∧ s7 = .int .i64 j ∧ i ≤ j ∧ j ≤ k ∧ x = val (cutL s i j)) (fun _ s7 _ => k - (intOf s7).toNat)
                    case atStart => exact ⟨rfl, i, 0, rfl, rfl, Nat.le_refl _, by omega, by rw [cut_self]; rfl⟩
                    case round =>
                      obtain ⟨rfl, j, x, rfl, rfl, hij, hjk, hx⟩ := hrel
                      have HJX := Lib.hid hx
                      clear hx
                      by_cases hjlt : j < k
                      · have hjs : j < s.length := by rw [← HN.out]; omega
                        obtain ⟨cj, hcj⟩ : ∃ c, c = s[j] := ⟨_, rfl⟩
                        have hjst : j < st.size := by omega
                        have hgj : st[j] = cj := by rw [hcj]; exact st_get HST.out hjst hjs
                        have hdj : digB cj = true := by
                          refine cut_all digB s i cj ?_
                          rw [HEK.out, cut_more s (i := i) (k := j) (e := k) hij hjk (by rw [← HN.out]; omega), cut_more s (i := j) (k := j + 1) (e := k) (by omega) (by omega) (by rw [← HN.out]; omega), cut_next s (Nat.le_refl j) hjs, cut_self, hcj]
                          simp
                        have hd2 : 48 ≤ cj.toNat ∧ cj.toNat ≤ 57 := by unfold digB at hdj; simpa using hdj
                        obtain ⟨hd3, hd4⟩ := hd2
                        have HNV : Hid (val (cutL s i (j + 1)) = 10 * x + (cj.toNat - 48)) := by rw [cut_next s hij hjs, val_snoc, ← hcj, ← HJX.out]; exact rfl
                        have hnx : 10 * x + (cj.toNat - 48) ≤ 9223372036854775807 := by
                          have h1 := val_mono (cutL s i (j + 1)) (cutL s (j + 1) k)
                          rw [← cut_more s (i := i) (k := j + 1) (e := k) (by omega) (by omega) (by rw [← HN.out]; omega), HNV.out] at h1
                          exact Nat.le_trans h1 HVM.out
                        obtain ⟨dj, hdj2⟩ : ∃ v, v = cj.toNat := ⟨_, rfl⟩
                        have hgj2 : st[j].toNat = dj := by rw [hgj, hdj2]
                        rw [← hdj2] at hd3 hd4 hnx HNV
                        clear hcj hjs hgj hdj hdj2
                        go_wp2_with fail
                        go_roundw
                        case rel => exact ⟨trivial, j + 1, 10 * x + (dj - 48), congrArg (Value.int .i64) (by omega), by go_num, by omega, by omega, HNV.out.symm⟩
                        case measure => simp [intOf]; omega
                      · obtain rfl : j = k := by omega
                        go_wp2_with (refine wpList_store_row rfl 79 _ _ rfl w.heap.size #[.int .u8 2, .string ⟨#[]⟩, .int .i64 (x : Nat), .int .i64 (i : Nat), .int .i64 (j : Nat), .int .i64 0, .int .i64 0] rfl rfl 79 _ HY.out (by kernel_rfl) (by kernel_rfl) (by kernel_rfl) ?_)
                        refine bodyPost_ret (results_cell_row rfl _ _ w.heap.size 79 #[.int .u8 2, .string ⟨#[]⟩, .int .i64 (x : Nat), .int .i64 (i : Nat), .int .i64 (j : Nat), .int .i64 0, .int .i64 0] (0, 0) _ rfl (setRow_heap _ w.heap.size _ _ 79 _ HY.out) Try.underlying79 rfl (by kernel_rfl)) rfl ⟨by rw [HR.out, HJX.out]; rfl, below_setRow HBW.out (Nat.le_refl _) _⟩
              · have hb20 : ((k : Int) - (i : Int) == 19) = false := by rw [beq_eq_false_iff_ne]; omega
                by_cases hin : innB ch = true
                · have HR : Hid (numT s i = .inl (k, 9)) := by
                    unfold numT; rw [numL_next HEK.out H48.out HVM.out (by rw [← HN.out]; exact hlt)]
                    have hsk : s[k]'(by rw [← HN.out]; exact hlt) = ch := by have h := HCK.out; rw [List.getElem?_eq_getElem (by rw [← HN.out]; exact hlt)] at h; injection h
                    rw [hsk, hin]; exact rfl
                  rw [HIN.out, HDF.out] at hin
                  cases hlo : lowB ch
                  · have h95 : cv = 95 := by rw [hlo] at hin; simpa using hin
                    have hb95 : ((cv : Int) == 95) = true := by rw [h95]; rfl
                    clear hin h95
                    go_wp2_with fail
                    refine HDI.out.mono ?_
                    rintro e w3 ⟨rfl, hw3⟩
                    rw [hw3, hdi]
                    clear hw3 w3
                    go_wp2_with fail
                    refine HLO.out.mono ?_
                    rintro e w3 ⟨rfl, hw3⟩
                    rw [hw3, hlo]
                    clear hw3 w3
                    go_wp2_with fail
                    refine (wrong_any (k) 9 wr).mono ?_
                    rintro e w2 ⟨rfl, hb2⟩
                    unfold told toldV
                    have HB2 := Lib.hid (HBW.out.trans (hb2.mono HBW.out.size))
                    have HY2 : Hid (Blk w2 w.heap.size 79 #[.int .u8 0, .string ⟨#[]⟩, .int .i64 0, .int .i64 0, .int .i64 0, .int .i64 0, .int .i64 0]) := (hb2.block _ hszr).trans HY.out
                    clear hb2
                    go_wp2_with (refine wpList_store_row rfl 79 _ _ rfl w.heap.size #[.int .u8 0, .string ⟨#[]⟩, .int .i64 0, .int .i64 0, .int .i64 0, .int .i64 (k : Nat), .int .i64 9] rfl rfl 79 _ HY2.out (by kernel_rfl) (by kernel_rfl) (by kernel_rfl) ?_)
                    refine bodyPost_ret (results_cell_row rfl _ _ w.heap.size 79 #[.int .u8 0, .string ⟨#[]⟩, .int .i64 0, .int .i64 0, .int .i64 0, .int .i64 (k : Nat), .int .i64 9] (0, 0) _ rfl (setRow_heap _ w.heap.size _ _ 79 _ HY2.out) Try.underlying79 rfl (by kernel_rfl)) rfl ⟨by rw [HR.out]; rfl, below_setRow HB2.out (Nat.le_refl _) _⟩
                  · clear hin
                    go_wp2_with fail
                    refine HDI.out.mono ?_
                    rintro e w3 ⟨rfl, hw3⟩
                    rw [hw3, hdi]
                    clear hw3 w3
                    go_wp2_with fail
                    refine HLO.out.mono ?_
                    rintro e w3 ⟨rfl, hw3⟩
                    rw [hw3, hlo]
                    clear hw3 w3
                    go_wp2_with fail
                    refine (wrong_any (k) 9 wr).mono ?_
                    rintro e w2 ⟨rfl, hb2⟩
                    unfold told toldV
                    have HB2 := Lib.hid (HBW.out.trans (hb2.mono HBW.out.size))
                    have HY2 : Hid (Blk w2 w.heap.size 79 #[.int .u8 0, .string ⟨#[]⟩, .int .i64 0, .int .i64 0, .int .i64 0, .int .i64 0, .int .i64 0]) := (hb2.block _ hszr).trans HY.out
                    clear hb2
                    go_wp2_with (refine wpList_store_row rfl 79 _ _ rfl w.heap.size #[.int .u8 0, .string ⟨#[]⟩, .int .i64 0, .int .i64 0, .int .i64 0, .int .i64 (k : Nat), .int .i64 9] rfl rfl 79 _ HY2.out (by kernel_rfl) (by kernel_rfl) (by kernel_rfl) ?_)
                    refine bodyPost_ret (results_cell_row rfl _ _ w.heap.size 79 #[.int .u8 0, .string ⟨#[]⟩, .int .i64 0, .int .i64 0, .int .i64 0, .int .i64 (k : Nat), .int .i64 9] (0, 0) _ rfl (setRow_heap _ w.heap.size _ _ 79 _ HY2.out) Try.underlying79 rfl (by kernel_rfl)) rfl ⟨by rw [HR.out]; rfl, below_setRow HB2.out (Nat.le_refl _) _⟩
                · have hin : innB ch = false := by simpa using hin
                  have HR : Hid (numT s i = .inr (⟨2, [], val (cutL s i k), i⟩, k)) := by
                    unfold numT; rw [numL_next HEK.out H48.out HVM.out (by rw [← HN.out]; exact hlt)]
                    have hsk : s[k]'(by rw [← HN.out]; exact hlt) = ch := by have h := HCK.out; rw [List.getElem?_eq_getElem (by rw [← HN.out]; exact hlt)] at h; injection h
                    rw [hsk, hin]; exact rfl
                  rw [HIN.out, HDF.out] at hin
                  have hlo : lowB ch = false := by cases h : lowB ch <;> simp_all
                  have h95 : ¬ cv = 95 := by rw [hlo] at hin; simpa using hin
                  have hb95 : ((cv : Int) == 95) = false := by rw [beq_eq_false_iff_ne]; omega
                  clear hin h95
                  go_wp2_with fail
                  refine HDI.out.mono ?_
                  rintro e w3 ⟨rfl, hw3⟩
                  rw [hw3, hdi]
                  clear hw3 w3
                  go_wp2_with fail
                  refine HLO.out.mono ?_
                  rintro e w3 ⟨rfl, hw3⟩
                  rw [hw3, hlo]
                  clear hw3 w3
                  go_wp2_with fail
                  go_loopw [6, 7] (fun s6 s7 wx => wx = wr ∧ ∃ (j x : Nat), s6 = .int .i64 x ∧ s7 = .int .i64 j ∧ i ≤ j ∧ j ≤ k ∧ x = val (cutL s i j)) (fun _ s7 _ => k - (intOf s7).toNat)
                  case atStart => exact ⟨rfl, i, 0, rfl, rfl, Nat.le_refl _, by omega, by rw [cut_self]; rfl⟩
                  case round =>
                    obtain ⟨rfl, j, x, rfl, rfl, hij, hjk, hx⟩ := hrel
                    have HJX := Lib.hid hx
                    clear hx
                    by_cases hjlt : j < k
                    · have hjs : j < s.length := by rw [← HN.out]; omega
                      obtain ⟨cj, hcj⟩ : ∃ c, c = s[j] := ⟨_, rfl⟩
                      have hjst : j < st.size := by omega
                      have hgj : st[j] = cj := by rw [hcj]; exact st_get HST.out hjst hjs
                      have hdj : digB cj = true := by
                        refine cut_all digB s i cj ?_
                        rw [HEK.out, cut_more s (i := i) (k := j) (e := k) hij hjk (by rw [← HN.out]; omega), cut_more s (i := j) (k := j + 1) (e := k) (by omega) (by omega) (by rw [← HN.out]; omega), cut_next s (Nat.le_refl j) hjs, cut_self, hcj]
                        simp
                      have hd2 : 48 ≤ cj.toNat ∧ cj.toNat ≤ 57 := by unfold digB at hdj; simpa using hdj
                      obtain ⟨hd3, hd4⟩ := hd2
                      have HNV : Hid (val (cutL s i (j + 1)) = 10 * x + (cj.toNat - 48)) := by rw [cut_next s hij hjs, val_snoc, ← hcj, ← HJX.out]; exact rfl
                      have hnx : 10 * x + (cj.toNat - 48) ≤ 9223372036854775807 := by
                        have h1 := val_mono (cutL s i (j + 1)) (cutL s (j + 1) k)
                        rw [← cut_more s (i := i) (k := j + 1) (e := k) (by omega) (by omega) (by rw [← HN.out]; omega), HNV.out] at h1
                        exact Nat.le_trans h1 HVM.out
                      obtain ⟨dj, hdj2⟩ : ∃ v, v = cj.toNat := ⟨_, rfl⟩
                      have hgj2 : st[j].toNat = dj := by rw [hgj, hdj2]
                      rw [← hdj2] at hd3 hd4 hnx HNV
                      clear hcj hjs hgj hdj hdj2
                      go_wp2_with fail
                      go_roundw
                      case rel => exact ⟨trivial, j + 1, 10 * x + (dj - 48), congrArg (Value.int .i64) (by omega), by go_num, by omega, by omega, HNV.out.symm⟩
                      case measure => simp [intOf]; omega
                    · obtain rfl : j = k := by omega
                      go_wp2_with (refine wpList_store_row rfl 79 _ _ rfl w.heap.size #[.int .u8 2, .string ⟨#[]⟩, .int .i64 (x : Nat), .int .i64 (i : Nat), .int .i64 (j : Nat), .int .i64 0, .int .i64 0] rfl rfl 79 _ HY.out (by kernel_rfl) (by kernel_rfl) (by kernel_rfl) ?_)
                      refine bodyPost_ret (results_cell_row rfl _ _ w.heap.size 79 #[.int .u8 2, .string ⟨#[]⟩, .int .i64 (x : Nat), .int .i64 (i : Nat), .int .i64 (j : Nat), .int .i64 0, .int .i64 0] (0, 0) _ rfl (setRow_heap _ w.heap.size _ _ 79 _ HY.out) Try.underlying79 rfl (by kernel_rfl)) rfl ⟨by rw [HR.out, HJX.out]; rfl, below_setRow HBW.out (Nat.le_refl _) _⟩
      · have HS := Lib.hid (HST2.out hdi)
        have hkE3 : k + 1 ≤ E := by rw [← HS.out]; exact scan_ge _ _ _
        go_wp2_with fail
        refine HDI.out.mono ?_
        rintro e w3 ⟨rfl, hw3⟩
        rw [hw3, hdi]
        clear hw3 w3
        go_wp2_with fail
        go_roundw
        case rel => exact ⟨⟨k + 1, by go_num, by omega, hkE3, HS.out⟩, HX.out.2⟩
        case measure => simp [intOf]; omega
    · have hkE2 : k = E := by omega
      have hbw : Below w.heap.size w wr := by rw [HX.out.2]; exact (Below.refl _ _).alloc (Nat.le_refl _) _
      have HBW := Lib.hid hbw
      have hy : Blk wr w.heap.size 79 #[.int .u8 0, .string ⟨#[]⟩, .int .i64 0, .int .i64 0, .int .i64 0, .int .i64 0, .int .i64 0] := by rw [HX.out.2]; exact Blk.new w 79 _
      have HY := Lib.hid hy
      have hszr : w.heap.size < wr.heap.size := hy.lt
      have HEK : Hid (scan digB s i = k) := by rw [← HE.out]; exact hkE2.symm
      have hik2 : i + 1 ≤ k := by omega
      clear hbw hy hkE2
      by_cases hz : v0 = 48 ∧ i + 1 < k
      · obtain ⟨hz1, hz2⟩ := hz
        have HR : Hid (numT s i = .inl (i + 1, 9)) := by unfold numT; rw [numL_zero (HC48.out.2 hz1) (by rw [HEK.out]; exact hz2)]; exact rfl
        have hb0 : ((v0 : Int) == 48) = true := by rw [hz1]; rfl
        have hb1 : decide ((i : Int) + 1 < (k : Int)) = true := decide_eq_true (by omega)
        clear hz1
        go_wp2_with fail
        refine (wrong_any (i + 1) 9 wr).mono ?_
        rintro e w2 ⟨rfl, hb2⟩
        unfold told toldV
        have HB2 := Lib.hid (HBW.out.trans (hb2.mono HBW.out.size))
        have HY2 : Hid (Blk w2 w.heap.size 79 #[.int .u8 0, .string ⟨#[]⟩, .int .i64 0, .int .i64 0, .int .i64 0, .int .i64 0, .int .i64 0]) := (hb2.block _ hszr).trans HY.out
        clear hb2
        go_wp2_with (refine wpList_store_row rfl 79 _ _ rfl w.heap.size #[.int .u8 0, .string ⟨#[]⟩, .int .i64 0, .int .i64 0, .int .i64 0, .int .i64 (i + 1 : Nat), .int .i64 9] rfl rfl 79 _ HY2.out (by kernel_rfl) (by kernel_rfl) (by kernel_rfl) ?_)
        refine bodyPost_ret (results_cell_row rfl _ _ w.heap.size 79 #[.int .u8 0, .string ⟨#[]⟩, .int .i64 0, .int .i64 0, .int .i64 0, .int .i64 (i + 1 : Nat), .int .i64 9] (0, 0) _ rfl (setRow_heap _ w.heap.size _ _ 79 _ HY2.out) Try.underlying79 rfl (by kernel_rfl)) rfl ⟨by rw [HR.out]; rfl, below_setRow HB2.out (Nat.le_refl _) _⟩
      · have HZ : Hid (¬ (s[i]? = some 48 ∧ i + 1 < scan digB s i)) := fun h => hz ⟨HC48.out.1 h.1, by have := h.2; rw [HEK.out] at this; exact this⟩
        have H48 : Hid (i + 1 < k → s[i]? ≠ some 48) := fun h1 h2 => hz ⟨HC48.out.1 h2, h1⟩
        by_cases hlong : 9223372036854775807 < val (cutL s i k)
        · have HR : Hid (numT s i = .inl (i, 2)) := by unfold numT; rw [numL_long HZ.out (by rw [HEK.out]; exact hlong)]; exact rfl
          have hle : 19 ≤ k - i := by
            rcases Nat.lt_or_ge (k - i) 19 with h | h
            · have := big_short HEK.out h; omega
            · exact h
          have hb0 : ((v0 : Int) == 48) = false := by rw [beq_eq_false_iff_ne]; intro h; exact hz ⟨by omega, by omega⟩
          clear hz
          by_cases h19 : 19 < k - i
          · have hb19 : decide ((19 : Int) < (k : Int) - (i : Int)) = true := decide_eq_true (by omega)
            clear hlong
            go_wp2_with fail
            refine (wrong_any (i) 2 wr).mono ?_
            rintro e w2 ⟨rfl, hb2⟩
            unfold told toldV
            have HB2 := Lib.hid (HBW.out.trans (hb2.mono HBW.out.size))
            have HY2 : Hid (Blk w2 w.heap.size 79 #[.int .u8 0, .string ⟨#[]⟩, .int .i64 0, .int .i64 0, .int .i64 0, .int .i64 0, .int .i64 0]) := (hb2.block _ hszr).trans HY.out
            clear hb2
            go_wp2_with (refine wpList_store_row rfl 79 _ _ rfl w.heap.size #[.int .u8 0, .string ⟨#[]⟩, .int .i64 0, .int .i64 0, .int .i64 0, .int .i64 (i : Nat), .int .i64 2] rfl rfl 79 _ HY2.out (by kernel_rfl) (by kernel_rfl) (by kernel_rfl) ?_)
            refine bodyPost_ret (results_cell_row rfl _ _ w.heap.size 79 #[.int .u8 0, .string ⟨#[]⟩, .int .i64 0, .int .i64 0, .int .i64 0, .int .i64 (i : Nat), .int .i64 2] (0, 0) _ rfl (setRow_heap _ w.heap.size _ _ 79 _ HY2.out) Try.underlying79 rfl (by kernel_rfl)) rfl ⟨by rw [HR.out]; rfl, below_setRow HB2.out (Nat.le_refl _) _⟩
          · have HBG : Hid (bigB (cutL s i k) = true) := by rw [big_19 HEK.out (by omega)]; exact decide_eq_true hlong
            clear hlong
            have hbb : Op.bytesLess (cutL s i k) most19 = false ∧ (cutL s i k == most19) = false := by have h := HBG.out; unfold bigB at h; simpa [Bool.or_eq_false_iff] using h
            obtain ⟨hbl, hbe⟩ := hbb
            have hb19 : decide ((19 : Int) < (k : Int) - (i : Int)) = false := decide_eq_false (by omega)
            have hb20 : ((k : Int) - (i : Int) == 19) = true := by rw [beq_iff_eq]; omega
            have hsl := run_slice_string (P := Try.prog) (w := wr) 9 st .i64 .i64 (i : Nat) (k : Nat) Try.underlying9 (by omega) (by omega) (by omega)
            simp only [Int.toNat_natCast] at hsl
            have hex : st.extract i k = ⟨(cutL s i k).toArray⟩ := by rw [HST.out]; exact extract_cut s i k
            rw [hex] at hsl
            clear hex
            go_wp2_with fail
            refine (wrong_any (i) 2 wr).mono ?_
            rintro e w2 ⟨rfl, hb2⟩
            unfold told toldV
            have HB2 := Lib.hid (HBW.out.trans (hb2.mono HBW.out.size))
            have HY2 : Hid (Blk w2 w.heap.size 79 #[.int .u8 0, .string ⟨#[]⟩, .int .i64 0, .int .i64 0, .int .i64 0, .int .i64 0, .int .i64 0]) := (hb2.block _ hszr).trans HY.out
            clear hb2
            go_wp2_with (refine wpList_store_row rfl 79 _ _ rfl w.heap.size #[.int .u8 0, .string ⟨#[]⟩, .int .i64 0, .int .i64 0, .int .i64 0, .int .i64 (i : Nat), .int .i64 2] rfl rfl 79 _ HY2.out (by kernel_rfl) (by kernel_rfl) (by kernel_rfl) ?_)
            refine bodyPost_ret (results_cell_row rfl _ _ w.heap.size 79 #[.int .u8 0, .string ⟨#[]⟩, .int .i64 0, .int .i64 0, .int .i64 0, .int .i64 (i : Nat), .int .i64 2] (0, 0) _ rfl (setRow_heap _ w.heap.size _ _ 79 _ HY2.out) Try.underlying79 rfl (by kernel_rfl)) rfl ⟨by rw [HR.out]; rfl, below_setRow HB2.out (Nat.le_refl _) _⟩
        · have hvm : val (cutL s i k) ≤ 9223372036854775807 := by omega
          have HVM := Lib.hid hvm
          clear hvm
          have h19 : k - i ≤ 19 := by
            rcases Nat.lt_or_ge 19 (k - i) with h | h
            · have := big_long HEK.out (H48.out (by omega)) h; omega
            · exact h
          have HBG : Hid (k - i = 19 → bigB (cutL s i k) = false) := fun h => by rw [big_19 HEK.out h]; exact decide_eq_false hlong
          clear hlong
          have hb19 : decide ((19 : Int) < (k : Int) - (i : Int)) = false := decide_eq_false (by omega)
          by_cases h0 : v0 = 48
          · have hki : k = i + 1 := by rcases Nat.lt_or_ge (i + 1) k with h | h; exact absurd ⟨h0, h⟩ hz; omega
            have hb0 : ((v0 : Int) == 48) = true := by rw [h0]; rfl
            have hb1 : decide ((i : Int) + 1 < (k : Int)) = false := decide_eq_false (by omega)
            have hb20 : ((k : Int) - (i : Int) == 19) = false := by rw [beq_eq_false_iff_ne]; omega
            clear hz h0 hki
            have HR : Hid (numT s i = .inr (⟨2, [], val (cutL s i k), i⟩, k)) := by unfold numT; rw [numL_end HEK.out H48.out HVM.out (by rw [← HN.out]; omega)]; exact rfl
            go_wp2_with fail
            go_loopw [6, 7] (fun s6 s7 wx => wx = wr ∧ ∃ (j x : Nat), s6 = .int .i64 x ∧ s7 = .int .i64 j ∧ i ≤ j ∧ j ≤ k ∧ x = val (cutL s i j)) (fun _ s7 _ => k - (intOf s7).toNat)
            case atStart => exact ⟨rfl, i, 0, rfl, rfl, Nat.le_refl _, by omega, by rw [cut_self]; rfl⟩
            case round =>
              obtain ⟨rfl, j, x, rfl, rfl, hij, hjk, hx⟩ := hrel
              have HJX := Lib.hid hx
              clear hx
              by_cases hjlt : j < k
              · have hjs : j < s.length := by rw [← HN.out]; omega
                obtain ⟨cj, hcj⟩ : ∃ c, c = s[j] := ⟨_, rfl⟩
                have hjst : j < st.size := by omega
                have hgj : st[j] = cj := by rw [hcj]; exact st_get HST.out hjst hjs
                have hdj : digB cj = true := by
                  refine cut_all digB s i cj ?_
                  rw [HEK.out, cut_more s (i := i) (k := j) (e := k) hij hjk (by rw [← HN.out]; omega), cut_more s (i := j) (k := j + 1) (e := k) (by omega) (by omega) (by rw [← HN.out]; omega), cut_next s (Nat.le_refl j) hjs, cut_self, hcj]
                  simp
                have hd2 : 48 ≤ cj.toNat ∧ cj.toNat ≤ 57 := by unfold digB at hdj; simpa using hdj
                obtain ⟨hd3, hd4⟩ := hd2
                have HNV : Hid (val (cutL s i (j + 1)) = 10 * x + (cj.toNat - 48)) := by rw [cut_next s hij hjs, val_snoc, ← hcj, ← HJX.out]; exact rfl
                have hnx : 10 * x + (cj.toNat - 48) ≤ 9223372036854775807 := by
                  have h1 := val_mono (cutL s i (j + 1)) (cutL s (j + 1) k)
                  rw [← cut_more s (i := i) (k := j + 1) (e := k) (by omega) (by omega) (by rw [← HN.out]; omega), HNV.out] at h1
                  exact Nat.le_trans h1 HVM.out
                obtain ⟨dj, hdj2⟩ : ∃ v, v = cj.toNat := ⟨_, rfl⟩
                have hgj2 : st[j].toNat = dj := by rw [hgj, hdj2]
                rw [← hdj2] at hd3 hd4 hnx HNV
                clear hcj hjs hgj hdj hdj2
                go_wp2_with fail
                go_roundw
                case rel => exact ⟨trivial, j + 1, 10 * x + (dj - 48), congrArg (Value.int .i64) (by omega), by go_num, by omega, by omega, HNV.out.symm⟩
                case measure => simp [intOf]; omega
              · obtain rfl : j = k := by omega
                go_wp2_with (refine wpList_store_row rfl 79 _ _ rfl w.heap.size #[.int .u8 2, .string ⟨#[]⟩, .int .i64 (x : Nat), .int .i64 (i : Nat), .int .i64 (j : Nat), .int .i64 0, .int .i64 0] rfl rfl 79 _ HY.out (by kernel_rfl) (by kernel_rfl) (by kernel_rfl) ?_)
                refine bodyPost_ret (results_cell_row rfl _ _ w.heap.size 79 #[.int .u8 2, .string ⟨#[]⟩, .int .i64 (x : Nat), .int .i64 (i : Nat), .int .i64 (j : Nat), .int .i64 0, .int .i64 0] (0, 0) _ rfl (setRow_heap _ w.heap.size _ _ 79 _ HY.out) Try.underlying79 rfl (by kernel_rfl)) rfl ⟨by rw [HR.out, HJX.out]; rfl, below_setRow HBW.out (Nat.le_refl _) _⟩
          · have hb0 : ((v0 : Int) == 48) = false := by rw [beq_eq_false_iff_ne]; omega
            clear hz h0
            by_cases h20 : k - i = 19
            · have hbq : Op.bytesLess (cutL s i k) most19 = true ∨ (cutL s i k == most19) = true := by have h := HBG.out h20; unfold bigB at h; revert h; cases Op.bytesLess (cutL s i k) most19 <;> cases (cutL s i k == most19) <;> simp
              have HBG2 := Lib.hid hbq
              clear HBG hbq
              have hb20 : ((k : Int) - (i : Int) == 19) = true := by rw [beq_iff_eq]; omega
              have hsl := run_slice_string (P := Try.prog) (w := wr) 9 st .i64 .i64 (i : Nat) (k : Nat) Try.underlying9 (by omega) (by omega) (by omega)
              simp only [Int.toNat_natCast] at hsl
              have hex : st.extract i k = ⟨(cutL s i k).toArray⟩ := by rw [HST.out]; exact extract_cut s i k
              rw [hex] at hsl
              clear hex
              clear h20
              rcases HBG2.out with hbl | hbl
              · have HR : Hid (numT s i = .inr (⟨2, [], val (cutL s i k), i⟩, k)) := by unfold numT; rw [numL_end HEK.out H48.out HVM.out (by rw [← HN.out]; omega)]; exact rfl
                go_wp2_with fail
                go_loopw [6, 7] (fun s6 s7 wx => wx = wr ∧ ∃ (j x : Nat), s6 = .int .i64 x ∧ s7 = .int .i64 j ∧ i ≤ j ∧ j ≤ k ∧ x = val (cutL s i j)) (fun _ s7 _ => k - (intOf s7).toNat)
                case atStart => exact ⟨rfl, i, 0, rfl, rfl, Nat.le_refl _, by omega, by rw [cut_self]; rfl⟩
                case round =>
                  obtain ⟨rfl, j, x, rfl, rfl, hij, hjk, hx⟩ := hrel
                  have HJX := Lib.hid hx
                  clear hx
                  by_cases hjlt : j < k
                  · have hjs : j < s.length := by rw [← HN.out]; omega
                    obtain ⟨cj, hcj⟩ : ∃ c, c = s[j] := ⟨_, rfl⟩
                    have hjst : j < st.size := by omega
                    have hgj : st[j] = cj := by rw [hcj]; exact st_get HST.out hjst hjs
                    have hdj : digB cj = true := by
                      refine cut_all digB s i cj ?_
                      rw [HEK.out, cut_more s (i := i) (k := j) (e := k) hij hjk (by rw [← HN.out]; omega), cut_more s (i := j) (k := j + 1) (e := k) (by omega) (by omega) (by rw [← HN.out]; omega), cut_next s (Nat.le_refl j) hjs, cut_self, hcj]
                      simp
                    have hd2 : 48 ≤ cj.toNat ∧ cj.toNat ≤ 57 := by unfold digB at hdj; simpa using hdj
                    obtain ⟨hd3, hd4⟩ := hd2
                    have HNV : Hid (val (cutL s i (j + 1)) = 10 * x + (cj.toNat - 48)) := by rw [cut_next s hij hjs, val_snoc, ← hcj, ← HJX.out]; exact rfl
                    have hnx : 10 * x + (cj.toNat - 48) ≤ 9223372036854775807 := by
                      have h1 := val_mono (cutL s i (j + 1)) (cutL s (j + 1) k)
                      rw [← cut_more s (i := i) (k := j + 1) (e := k) (by omega) (by omega) (by rw [← HN.out]; omega), HNV.out] at h1
                      exact Nat.le_trans h1 HVM.out
                    obtain ⟨dj, hdj2⟩ : ∃ v, v = cj.toNat := ⟨_, rfl⟩
                    have hgj2 : st[j].toNat = dj := by rw [hgj, hdj2]
                    rw [← hdj2] at hd3 hd4 hnx HNV
                    clear hcj hjs hgj hdj hdj2
                    go_wp2_with fail
                    go_roundw
                    case rel => exact ⟨trivial, j + 1, 10 * x + (dj - 48), congrArg (Value.int .i64) (by omega), by go_num, by omega, by omega, HNV.out.symm⟩
                    case measure => simp [intOf]; omega
                  · obtain rfl : j = k := by omega
                    go_wp2_with (refine wpList_store_row rfl 79 _ _ rfl w.heap.size #[.int .u8 2, .string ⟨#[]⟩, .int .i64 (x : Nat), .int .i64 (i : Nat), .int .i64 (j : Nat), .int .i64 0, .int .i64 0] rfl rfl 79 _ HY.out (by kernel_rfl) (by kernel_rfl) (by kernel_rfl) ?_)
                    refine bodyPost_ret (results_cell_row rfl _ _ w.heap.size 79 #[.int .u8 2, .string ⟨#[]⟩, .int .i64 (x : Nat), .int .i64 (i : Nat), .int .i64 (j : Nat), .int .i64 0, .int .i64 0] (0, 0) _ rfl (setRow_heap _ w.heap.size _ _ 79 _ HY.out) Try.underlying79 rfl (by kernel_rfl)) rfl ⟨by rw [HR.out, HJX.out]; rfl, below_setRow HBW.out (Nat.le_refl _) _⟩
              · have HR : Hid (numT s i = .inr (⟨2, [], val (cutL s i k), i⟩, k)) := by unfold numT; rw [numL_end HEK.out H48.out HVM.out (by rw [← HN.out]; omega)]; exact rfl
                go_wp2_with fail
                go_loopw [6, 7] (fun s6 s7 wx => wx = wr ∧ ∃ (j x : Nat), s6 = .int .i64 x ∧ s7 = .int .i64 j ∧ i ≤ j ∧ j ≤ k ∧ x = val (cutL s i j)) (fun _ s7 _ => k - (intOf s7).toNat)
                case atStart => exact ⟨rfl, i, 0, rfl, rfl, Nat.le_refl _, by omega, by rw [cut_self]; rfl⟩
                case round =>
                  obtain ⟨rfl, j, x, rfl, rfl, hij, hjk, hx⟩ := hrel
                  have HJX := Lib.hid hx
                  clear hx
                  by_cases hjlt : j < k
                  · have hjs : j < s.length := by rw [← HN.out]; omega
                    obtain ⟨cj, hcj⟩ : ∃ c, c = s[j] := ⟨_, rfl⟩
                    have hjst : j < st.size := by omega
                    have hgj : st[j] = cj := by rw [hcj]; exact st_get HST.out hjst hjs
                    have hdj : digB cj = true := by
                      refine cut_all digB s i cj ?_
                      rw [HEK.out, cut_more s (i := i) (k := j) (e := k) hij hjk (by rw [← HN.out]; omega), cut_more s (i := j) (k := j + 1) (e := k) (by omega) (by omega) (by rw [← HN.out]; omega), cut_next s (Nat.le_refl j) hjs, cut_self, hcj]
                      simp
                    have hd2 : 48 ≤ cj.toNat ∧ cj.toNat ≤ 57 := by unfold digB at hdj; simpa using hdj
                    obtain ⟨hd3, hd4⟩ := hd2
                    have HNV : Hid (val (cutL s i (j + 1)) = 10 * x + (cj.toNat - 48)) := by rw [cut_next s hij hjs, val_snoc, ← hcj, ← HJX.out]; exact rfl
                    have hnx : 10 * x + (cj.toNat - 48) ≤ 9223372036854775807 := by
                      have h1 := val_mono (cutL s i (j + 1)) (cutL s (j + 1) k)
                      rw [← cut_more s (i := i) (k := j + 1) (e := k) (by omega) (by omega) (by rw [← HN.out]; omega), HNV.out] at h1
                      exact Nat.le_trans h1 HVM.out
                    obtain ⟨dj, hdj2⟩ : ∃ v, v = cj.toNat := ⟨_, rfl⟩
                    have hgj2 : st[j].toNat = dj := by rw [hgj, hdj2]
                    rw [← hdj2] at hd3 hd4 hnx HNV
                    clear hcj hjs hgj hdj hdj2
                    go_wp2_with fail
                    go_roundw
                    case rel => exact ⟨trivial, j + 1, 10 * x + (dj - 48), congrArg (Value.int .i64) (by omega), by go_num, by omega, by omega, HNV.out.symm⟩
                    case measure => simp [intOf]; omega
                  · obtain rfl : j = k := by omega
                    go_wp2_with (refine wpList_store_row rfl 79 _ _ rfl w.heap.size #[.int .u8 2, .string ⟨#[]⟩, .int .i64 (x : Nat), .int .i64 (i : Nat), .int .i64 (j : Nat), .int .i64 0, .int .i64 0] rfl rfl 79 _ HY.out (by kernel_rfl) (by kernel_rfl) (by kernel_rfl) ?_)
                    refine bodyPost_ret (results_cell_row rfl _ _ w.heap.size 79 #[.int .u8 2, .string ⟨#[]⟩, .int .i64 (x : Nat), .int .i64 (i : Nat), .int .i64 (j : Nat), .int .i64 0, .int .i64 0] (0, 0) _ rfl (setRow_heap _ w.heap.size _ _ 79 _ HY.out) Try.underlying79 rfl (by kernel_rfl)) rfl ⟨by rw [HR.out, HJX.out]; rfl, below_setRow HBW.out (Nat.le_refl _) _⟩
            · have hb20 : ((k : Int) - (i : Int) == 19) = false := by rw [beq_eq_false_iff_ne]; omega
              have HR : Hid (numT s i = .inr (⟨2, [], val (cutL s i k), i⟩, k)) := by unfold numT; rw [numL_end HEK.out H48.out HVM.out (by rw [← HN.out]; omega)]; exact rfl
              go_wp2_with fail
              go_loopw [6, 7] (fun s6 s7 wx => wx = wr ∧ ∃ (j x : Nat), s6 = .int .i64 x ∧ s7 = .int .i64 j ∧ i ≤ j ∧ j ≤ k ∧ x = val (cutL s i j)) (fun _ s7 _ => k - (intOf s7).toNat)
              case atStart => exact ⟨rfl, i, 0, rfl, rfl, Nat.le_refl _, by omega, by rw [cut_self]; rfl⟩
              case round =>
                obtain ⟨rfl, j, x, rfl, rfl, hij, hjk, hx⟩ := hrel
                have HJX := Lib.hid hx
                clear hx
                by_cases hjlt : j < k
                · have hjs : j < s.length := by rw [← HN.out]; omega
                  obtain ⟨cj, hcj⟩ : ∃ c, c = s[j] := ⟨_, rfl⟩
                  have hjst : j < st.size := by omega
                  have hgj : st[j] = cj := by rw [hcj]; exact st_get HST.out hjst hjs
                  have hdj : digB cj = true := by
                    refine cut_all digB s i cj ?_
                    rw [HEK.out, cut_more s (i := i) (k := j) (e := k) hij hjk (by rw [← HN.out]; omega), cut_more s (i := j) (k := j + 1) (e := k) (by omega) (by omega) (by rw [← HN.out]; omega), cut_next s (Nat.le_refl j) hjs, cut_self, hcj]
                    simp
                  have hd2 : 48 ≤ cj.toNat ∧ cj.toNat ≤ 57 := by unfold digB at hdj; simpa using hdj
                  obtain ⟨hd3, hd4⟩ := hd2
                  have HNV : Hid (val (cutL s i (j + 1)) = 10 * x + (cj.toNat - 48)) := by rw [cut_next s hij hjs, val_snoc, ← hcj, ← HJX.out]; exact rfl
                  have hnx : 10 * x + (cj.toNat - 48) ≤ 9223372036854775807 := by
                    have h1 := val_mono (cutL s i (j + 1)) (cutL s (j + 1) k)
                    rw [← cut_more s (i := i) (k := j + 1) (e := k) (by omega) (by omega) (by rw [← HN.out]; omega), HNV.out] at h1
                    exact Nat.le_trans h1 HVM.out
                  obtain ⟨dj, hdj2⟩ : ∃ v, v = cj.toNat := ⟨_, rfl⟩
                  have hgj2 : st[j].toNat = dj := by rw [hgj, hdj2]
                  rw [← hdj2] at hd3 hd4 hnx HNV
                  clear hcj hjs hgj hdj hdj2
                  go_wp2_with fail
                  go_roundw
                  case rel => exact ⟨trivial, j + 1, 10 * x + (dj - 48), congrArg (Value.int .i64) (by omega), by go_num, by omega, by omega, HNV.out.symm⟩
                  case measure => simp [intOf]; omega
                · obtain rfl : j = k := by omega
                  go_wp2_with (refine wpList_store_row rfl 79 _ _ rfl w.heap.size #[.int .u8 2, .string ⟨#[]⟩, .int .i64 (x : Nat), .int .i64 (i : Nat), .int .i64 (j : Nat), .int .i64 0, .int .i64 0] rfl rfl 79 _ HY.out (by kernel_rfl) (by kernel_rfl) (by kernel_rfl) ?_)
                  refine bodyPost_ret (results_cell_row rfl _ _ w.heap.size 79 #[.int .u8 2, .string ⟨#[]⟩, .int .i64 (x : Nat), .int .i64 (i : Nat), .int .i64 (j : Nat), .int .i64 0, .int .i64 0] (0, 0) _ rfl (setRow_heap _ w.heap.size _ _ 79 _ HY.out) Try.underlying79 rfl (by kernel_rfl)) rfl ⟨by rw [HR.out, HJX.out]; rfl, below_setRow HBW.out (Nat.le_refl _) _⟩
end Go.Proofs.Ytbcadlocldplfaa
namespace Go.Proofs.Ytbcadlocldplfaa
set_option maxRecDepth 100000
open Go.RowKit

set_option maxHeartbeats 2000000 in
theorem word_any (s : List UInt8) (i : Nat) (hs : s.length ≤ 100000) (hi : i ≤ s.length) (w : World) :
    Calls Try.prog 68 #[.string ⟨s.toArray⟩, .int .i64 (i : Nat)] w (ToldPost w (wordL s i)) := by
  obtain ⟨st, hst⟩ : ∃ st : ByteArray, st = ⟨s.toArray⟩ := ⟨_, rfl⟩
  have hsz : st.size = s.length := by rw [hst]; rfl
  obtain ⟨n, hn⟩ : ∃ n, n = s.length := ⟨_, rfl⟩
  obtain ⟨E, hE⟩ : ∃ E, E = scan innB s i := ⟨_, rfl⟩
  have hEn : E ≤ n := by rw [hE, hn]; exact scan_le _ _ hi
  have hiE : i ≤ E := by rw [hE]; exact scan_ge _ _ _
  rw [← hst]
  rw [← hn] at hsz hs hi
  have HST := Lib.hid hst
  have HN := Lib.hid hn
  have HE := Lib.hid hE
  clear hst hn hE
  go_enter Try.func68, Try.ntmps68
  go_wp2_with fail
  go_loopw [5] (fun s5 wr => (∃ k : Nat, s5 = .int .i64 k ∧ i ≤ k ∧ k ≤ E ∧ scan innB s k = E) ∧ wr = w.alloc (.cells #[.int .u8 0, .string ⟨#[]⟩, .int .i64 0, .int .i64 0, .int .i64 0, .int .i64 0, .int .i64 0] 79)) (fun s5 _ => n - (intOf s5).toNat)
  case atStart => exact ⟨⟨i, rfl, Nat.le_refl _, hiE, HE.out.symm⟩, rfl⟩
  case round =>
    obtain ⟨⟨k, rfl, hik, hkE, hsc⟩, hw⟩ := hrel
    have HX := Lib.hid (And.intro hsc hw)
    clear hsc hw
    by_cases hlt : k < n
    · have hks : k < s.length := by rw [← HN.out]; exact hlt
      obtain ⟨ch, hch⟩ : ∃ c, c = s[k] := ⟨_, rfl⟩
      have hkst : k < st.size := by omega
      have hg : st[k] = ch := by rw [hch]; exact st_get HST.out hkst hks
      have HSP : Hid (innB ch = false → k = E) := fun hd => by rw [← HX.out.1]; exact (scan_stop _ _ hks (by rw [← hch]; exact hd)).symm
      have HST2 : Hid (innB ch = true → scan innB s (k + 1) = E) := fun hd => by rw [← HX.out.1]; exact (scan_step _ _ hks (by rw [← hch]; exact hd)).symm
      clear hch hks
      have HIN : Hid (innB ch = (lowB ch || digB ch || decide (ch.toNat = 95))) := rfl
      have hcl : ch.toNat < 256 := UInt8.toNat_lt _
      have HLO := Lib.hid (low_any ch wr)
      have HDI := Lib.hid (dig_any ch wr)
      obtain ⟨cv, hcv⟩ : ∃ v, v = ch.toNat := ⟨_, rfl⟩
      have hg2 : st[k].toNat = cv := by rw [hg, hcv]
      rw [← hcv] at HLO HDI HIN hcl
      clear hg hcv
      by_cases hin : innB ch = true
      · have HS := Lib.hid (HST2.out hin)
        have hkE3 : k + 1 ≤ E := by rw [← HS.out]; exact scan_ge _ _ _
        rw [HIN.out] at hin
        cases hlo : lowB ch
        · cases hdi : digB ch
          · have h95 : cv = 95 := by rw [hlo, hdi] at hin; simpa using hin
            have hb95 : ((cv : Int) == 95) = true := by rw [h95]; rfl
            clear h95 hin
            go_wp2_with fail
            refine HLO.out.mono ?_
            rintro e w3 ⟨rfl, hw3⟩
            rw [hw3, hlo]
            clear hw3 w3
            go_wp2_with fail
            refine HDI.out.mono ?_
            rintro e w3 ⟨rfl, hw3⟩
            rw [hw3, hdi]
            clear hw3 w3
            go_wp2_with fail
            go_roundw
            case rel => exact ⟨⟨k + 1, by go_num, by omega, hkE3, HS.out⟩, HX.out.2⟩
            case measure => simp [intOf]; omega
          · clear hin
            go_wp2_with fail
            refine HLO.out.mono ?_
            rintro e w3 ⟨rfl, hw3⟩
            rw [hw3, hlo]
            clear hw3 w3
            go_wp2_with fail
            refine HDI.out.mono ?_
            rintro e w3 ⟨rfl, hw3⟩
            rw [hw3, hdi]
            clear hw3 w3
            go_wp2_with fail
            go_roundw
            case rel => exact ⟨⟨k + 1, by go_num, by omega, hkE3, HS.out⟩, HX.out.2⟩
            case measure => simp [intOf]; omega
        · clear hin
          go_wp2_with fail
          refine HLO.out.mono ?_
          rintro e w3 ⟨rfl, hw3⟩
          rw [hw3, hlo]
          clear hw3 w3
          go_wp2_with fail
          go_roundw
          case rel => exact ⟨⟨k + 1, by go_num, by omega, hkE3, HS.out⟩, HX.out.2⟩
          case measure => simp [intOf]; omega
      · have hkE2 : k = E := HSP.out (by simpa using hin)
        rw [HIN.out] at hin
        have hlo : lowB ch = false := by cases h : lowB ch <;> simp_all
        have hdi : digB ch = false := by cases h : digB ch <;> simp_all
        have h95 : ¬ cv = 95 := by rw [hlo, hdi] at hin; simpa using hin
        have hb95 : ((cv : Int) == 95) = false := by rw [beq_eq_false_iff_ne]; omega
        clear hin h95
        have hbw : Below w.heap.size w wr := by rw [HX.out.2]; exact (Below.refl _ _).alloc (Nat.le_refl _) _
        have HBW := Lib.hid hbw
        have hy : Blk wr w.heap.size 79 #[.int .u8 0, .string ⟨#[]⟩, .int .i64 0, .int .i64 0, .int .i64 0, .int .i64 0, .int .i64 0] := by rw [HX.out.2]; exact Blk.new w 79 _
        have HY := Lib.hid hy
        have hszr : w.heap.size < wr.heap.size := hy.lt
        clear hbw hy
        by_cases h24 : 24 < k - i
        · have HR : Hid (wordL s i = .inl (i, 2)) := by unfold wordL; rw [← HE.out, ← hkE2, if_pos h24]; exact rfl
          clear hkE2
          go_wp2_with fail
          refine HLO.out.mono ?_
          rintro e w3 ⟨rfl, hw3⟩
          rw [hw3, hlo]
          clear hw3 w3
          go_wp2_with fail
          refine HDI.out.mono ?_
          rintro e w3 ⟨rfl, hw3⟩
          rw [hw3, hdi]
          clear hw3 w3
          go_wp2_with fail
          refine (wrong_any i 2 wr).mono ?_
          rintro e w2 ⟨rfl, hb2⟩
          unfold told toldV
          have HB2 := Lib.hid (HBW.out.trans (hb2.mono HBW.out.size))
          have HY2 : Hid (Blk w2 w.heap.size 79 #[.int .u8 0, .string ⟨#[]⟩, .int .i64 0, .int .i64 0, .int .i64 0, .int .i64 0, .int .i64 0]) := (hb2.block _ hszr).trans HY.out
          clear hb2
          go_wp2_with (refine wpList_store_row rfl 79 _ _ rfl w.heap.size #[.int .u8 0, .string ⟨#[]⟩, .int .i64 0, .int .i64 0, .int .i64 0, .int .i64 (i : Nat), .int .i64 2] rfl rfl 79 _ HY2.out (by kernel_rfl) (by kernel_rfl) (by kernel_rfl) ?_)
          refine bodyPost_ret (results_cell_row rfl _ _ w.heap.size 79 #[.int .u8 0, .string ⟨#[]⟩, .int .i64 0, .int .i64 0, .int .i64 0, .int .i64 (i : Nat), .int .i64 2] (0, 0) _ rfl (setRow_heap _ w.heap.size _ _ 79 _ HY2.out) Try.underlying79 rfl (by kernel_rfl)) rfl ⟨by rw [HR.out]; rfl, below_setRow HB2.out (Nat.le_refl _) _⟩
        · have HR : Hid (wordL s i = .inr (⟨1, cutL s i k, 0, i⟩, k)) := by unfold wordL; rw [← HE.out, ← hkE2, if_neg h24]; exact rfl
          have hkn : k ≤ n := by omega
          have hsl := run_slice_string (P := Try.prog) (w := wr) 9 st .i64 .i64 (i : Nat) (k : Nat) Try.underlying9 (by omega) (by omega) (by omega)
          simp only [Int.toNat_natCast] at hsl
          have hex : st.extract i k = ⟨(cutL s i k).toArray⟩ := by rw [HST.out]; exact extract_cut s i k
          rw [hex] at hsl
          clear hkE2 hex
          go_wp2_with fail
          refine HLO.out.mono ?_
          rintro e w3 ⟨rfl, hw3⟩
          rw [hw3, hlo]
          clear hw3 w3
          go_wp2_with fail
          refine HDI.out.mono ?_
          rintro e w3 ⟨rfl, hw3⟩
          rw [hw3, hdi]
          clear hw3 w3
          go_wp2_with (refine wpList_store_row rfl 79 _ _ rfl w.heap.size #[.int .u8 1, .string ⟨(cutL s i k).toArray⟩, .int .i64 0, .int .i64 (i : Nat), .int .i64 (k : Nat), .int .i64 0, .int .i64 0] rfl rfl 79 _ HY.out (by kernel_rfl) (by kernel_rfl) (by kernel_rfl) ?_)
          refine bodyPost_ret (results_cell_row rfl _ _ w.heap.size 79 #[.int .u8 1, .string ⟨(cutL s i k).toArray⟩, .int .i64 0, .int .i64 (i : Nat), .int .i64 (k : Nat), .int .i64 0, .int .i64 0] (0, 0) _ rfl (setRow_heap _ w.heap.size _ _ 79 _ HY.out) Try.underlying79 rfl (by kernel_rfl)) rfl ⟨by rw [HR.out]; rfl, below_setRow HBW.out (Nat.le_refl _) _⟩
    · have hkE2 : k = E := by omega
      have hbw : Below w.heap.size w wr := by rw [HX.out.2]; exact (Below.refl _ _).alloc (Nat.le_refl _) _
      have HBW := Lib.hid hbw
      have hy : Blk wr w.heap.size 79 #[.int .u8 0, .string ⟨#[]⟩, .int .i64 0, .int .i64 0, .int .i64 0, .int .i64 0, .int .i64 0] := by rw [HX.out.2]; exact Blk.new w 79 _
      have HY := Lib.hid hy
      have hszr : w.heap.size < wr.heap.size := hy.lt
      clear hbw hy
      by_cases h24 : 24 < k - i
      · have HR : Hid (wordL s i = .inl (i, 2)) := by unfold wordL; rw [← HE.out, ← hkE2, if_pos h24]; exact rfl
        clear hkE2
        go_wp2_with fail
        refine (wrong_any i 2 wr).mono ?_
        rintro e w2 ⟨rfl, hb2⟩
        unfold told toldV
        have HB2 := Lib.hid (HBW.out.trans (hb2.mono HBW.out.size))
        have HY2 : Hid (Blk w2 w.heap.size 79 #[.int .u8 0, .string ⟨#[]⟩, .int .i64 0, .int .i64 0, .int .i64 0, .int .i64 0, .int .i64 0]) := (hb2.block _ hszr).trans HY.out
        clear hb2
        go_wp2_with (refine wpList_store_row rfl 79 _ _ rfl w.heap.size #[.int .u8 0, .string ⟨#[]⟩, .int .i64 0, .int .i64 0, .int .i64 0, .int .i64 (i : Nat), .int .i64 2] rfl rfl 79 _ HY2.out (by kernel_rfl) (by kernel_rfl) (by kernel_rfl) ?_)
        refine bodyPost_ret (results_cell_row rfl _ _ w.heap.size 79 #[.int .u8 0, .string ⟨#[]⟩, .int .i64 0, .int .i64 0, .int .i64 0, .int .i64 (i : Nat), .int .i64 2] (0, 0) _ rfl (setRow_heap _ w.heap.size _ _ 79 _ HY2.out) Try.underlying79 rfl (by kernel_rfl)) rfl ⟨by rw [HR.out]; rfl, below_setRow HB2.out (Nat.le_refl _) _⟩
      · have HR : Hid (wordL s i = .inr (⟨1, cutL s i k, 0, i⟩, k)) := by unfold wordL; rw [← HE.out, ← hkE2, if_neg h24]; exact rfl
        have hkn : k ≤ n := by omega
        have hsl := run_slice_string (P := Try.prog) (w := wr) 9 st .i64 .i64 (i : Nat) (k : Nat) Try.underlying9 (by omega) (by omega) (by omega)
        simp only [Int.toNat_natCast] at hsl
        have hex : st.extract i k = ⟨(cutL s i k).toArray⟩ := by rw [HST.out]; exact extract_cut s i k
        rw [hex] at hsl
        clear hkE2 hex
        go_wp2_with (refine wpList_store_row rfl 79 _ _ rfl w.heap.size #[.int .u8 1, .string ⟨(cutL s i k).toArray⟩, .int .i64 0, .int .i64 (i : Nat), .int .i64 (k : Nat), .int .i64 0, .int .i64 0] rfl rfl 79 _ HY.out (by kernel_rfl) (by kernel_rfl) (by kernel_rfl) ?_)
        refine bodyPost_ret (results_cell_row rfl _ _ w.heap.size 79 #[.int .u8 1, .string ⟨(cutL s i k).toArray⟩, .int .i64 0, .int .i64 (i : Nat), .int .i64 (k : Nat), .int .i64 0, .int .i64 0] (0, 0) _ rfl (setRow_heap _ w.heap.size _ _ 79 _ HY.out) Try.underlying79 rfl (by kernel_rfl)) rfl ⟨by rw [HR.out]; rfl, below_setRow HBW.out (Nat.le_refl _) _⟩
end Go.Proofs.Ytbcadlocldplfaa
namespace Go.Proofs.Ytbcadlocldplfaa
set_option maxRecDepth 100000
open Go.RowKit

set_option maxRecDepth 100000 in
set_option maxHeartbeats 8000000 in
theorem refOne_any (s : List UInt8) (i : Nat) (c0 : UInt8) (hs : s.length ≤ 100000) (hc0 : s[i]? = some c0) (w : World) :
    Calls Try.prog 44 #[.string ⟨s.toArray⟩, .int .i64 (i : Nat)] w (ToldPost w (oneL s i c0)) := by
  obtain ⟨st, hst⟩ : ∃ st : ByteArray, st = ⟨s.toArray⟩ := ⟨_, rfl⟩
  have hsz : st.size = s.length := by rw [hst]; rfl
  obtain ⟨n, hn⟩ : ∃ n, n = s.length := ⟨_, rfl⟩
  have hil : i < s.length := (List.getElem?_eq_some_iff.1 hc0).1
  have hsi : s[i] = c0 := by have h := hc0; rw [List.getElem?_eq_getElem hil] at h; injection h
  have hist0 : i < st.size := by omega
  obtain ⟨v0, hv0⟩ : ∃ v, v = c0.toNat := ⟨_, rfl⟩
  have hg0 : st[i].toNat = v0 := by rw [hv0, ← hsi, st_get hst hist0 hil]
  have hv0l : v0 < 256 := by rw [hv0]; exact UInt8.toNat_lt _
  have HC34 : Hid (c0 = 34 ↔ v0 = 34) := by rw [hv0]; exact ⟨fun h => by rw [h]; rfl, fun h => UInt8.toNat_inj.1 h⟩
  have HLO := Lib.hid (fun W => low_any c0 W)
  have HDI := Lib.hid (fun W => dig_any c0 W)
  have HWO := Lib.hid (fun W => word_any s i hs (by omega) W)
  have HTX := Lib.hid (fun W => refText_any s i hs hil W)
  have HSI := Lib.hid (fun W => refSign_any s i c0 hs hc0 W)
  have HNU := Lib.hid (fun (hd : digB c0 = true) W => refNumber_any s i c0 hs hc0 hd W)
  have HON : Hid (oneL s i c0 = if lowB c0 then wordL s i else if digB c0 then numT s i else if c0 = 34 then textT s i else signL s i c0) := rfl
  rw [← hv0] at HLO HDI
  rw [← hst] at HWO HTX HSI HNU ⊢
  rw [← hn] at hsz hs hil
  have HST := Lib.hid hst
  clear hst hsi hc0 hv0
  go_enter Try.func44, Try.ntmps44
  go_wp2_with fail
  refine (HLO.out _).mono ?_
  rintro e w2 ⟨rfl, hw2⟩
  rw [hw2]
  clear hw2 w2
  cases hlo : lowB c0
  · have HLF := Lib.hid hlo
    cases hdi : digB c0
    · have HDF := Lib.hid hdi
      go_wp2_with fail
      refine (HDI.out _).mono ?_
      rintro e w2 ⟨rfl, hw2⟩
      rw [hw2, hdi]
      clear hw2 w2
      by_cases h34 : v0 = 34
      · have hb34 : ((v0 : Int) == 34) = true := by rw [h34]; rfl
        have HR : Hid (oneL s i c0 = textT s i) := by rw [HON.out, HLF.out, HDF.out]; exact if_pos (HC34.out.2 h34)
        clear h34
        rcases hr : textT s i with ⟨q, er⟩ | ⟨t, e1⟩
        · have HR2 := Lib.hid hr
          rw [hr] at HR; clear hr
          go_wp2_with fail
          refine (HTX.out _).mono ?_
          intro e w2 hq
          obtain ⟨he, hb2⟩ := hq
          rw [HR2.out] at he
          unfold told toldV at he
          subst he
          have HB2 := Lib.hid (((Below.refl _ _).alloc (Nat.le_refl _) _).trans (hb2.mono (by simp)))
          have HY2 : Hid (Blk w2 w.heap.size 79 #[.int .u8 0, .string ⟨#[]⟩, .int .i64 0, .int .i64 0, .int .i64 0, .int .i64 0, .int .i64 0]) := (hb2.block _ (by simp)).trans (Blk.new w 79 _)
          clear hb2
          go_wp2_with (refine wpList_store_row rfl 79 _ _ rfl w.heap.size #[.int .u8 0, .string ⟨#[]⟩, .int .i64 0, .int .i64 0, .int .i64 0, .int .i64 (q : Nat), .int .i64 (er : Nat)] rfl rfl 79 _ HY2.out (by kernel_rfl) (by kernel_rfl) (by kernel_rfl) ?_)
          refine bodyPost_ret (results_cell_row rfl _ _ w.heap.size 79 #[.int .u8 0, .string ⟨#[]⟩, .int .i64 0, .int .i64 0, .int .i64 0, .int .i64 (q : Nat), .int .i64 (er : Nat)] (0, 0) _ rfl (setRow_heap _ w.heap.size _ _ 79 _ HY2.out) Try.underlying79 rfl (by kernel_rfl)) rfl ⟨by rw [HR.out]; rfl, below_setRow HB2.out (Nat.le_refl _) _⟩
        · have HR2 := Lib.hid hr
          rw [hr] at HR; clear hr
          go_wp2_with fail
          refine (HTX.out _).mono ?_
          intro e w2 hq
          obtain ⟨he, hb2⟩ := hq
          rw [HR2.out] at he
          unfold told toldV at he
          subst he
          have HB2 := Lib.hid (((Below.refl _ _).alloc (Nat.le_refl _) _).trans (hb2.mono (by simp)))
          have HY2 : Hid (Blk w2 w.heap.size 79 #[.int .u8 0, .string ⟨#[]⟩, .int .i64 0, .int .i64 0, .int .i64 0, .int .i64 0, .int .i64 0]) := (hb2.block _ (by simp)).trans (Blk.new w 79 _)
          clear hb2
          go_wp2_with (refine wpList_store_row rfl 79 _ _ rfl w.heap.size #[.int .u8 (t.kind : Nat), .string ⟨t.text.toArray⟩, .int .i64 (t.int : Nat), .int .i64 (t.place : Nat), .int .i64 (e1 : Nat), .int .i64 0, .int .i64 0] rfl rfl 79 _ HY2.out (by kernel_rfl) (by kernel_rfl) (by kernel_rfl) ?_)
          refine bodyPost_ret (results_cell_row rfl _ _ w.heap.size 79 #[.int .u8 (t.kind : Nat), .string ⟨t.text.toArray⟩, .int .i64 (t.int : Nat), .int .i64 (t.place : Nat), .int .i64 (e1 : Nat), .int .i64 0, .int .i64 0] (0, 0) _ rfl (setRow_heap _ w.heap.size _ _ 79 _ HY2.out) Try.underlying79 rfl (by kernel_rfl)) rfl ⟨by rw [HR.out]; rfl, below_setRow HB2.out (Nat.le_refl _) _⟩
      · have hb34 : ((v0 : Int) == 34) = false := by rw [beq_eq_false_iff_ne]; omega
        have HR : Hid (oneL s i c0 = signL s i c0) := by rw [HON.out, HLF.out, HDF.out]; exact if_neg (fun h => h34 (HC34.out.1 h))
        clear h34
        rcases hr : signL s i c0 with ⟨q, er⟩ | ⟨t, e1⟩
        · have HR2 := Lib.hid hr
          rw [hr] at HR; clear hr
          go_wp2_with fail
          refine (HSI.out _).mono ?_
          intro e w2 hq
          obtain ⟨he, hb2⟩ := hq
          rw [HR2.out] at he
          unfold told toldV at he
          subst he
          have HB2 := Lib.hid (((Below.refl _ _).alloc (Nat.le_refl _) _).trans (hb2.mono (by simp)))
          have HY2 : Hid (Blk w2 w.heap.size 79 #[.int .u8 0, .string ⟨#[]⟩, .int .i64 0, .int .i64 0, .int .i64 0, .int .i64 0, .int .i64 0]) := (hb2.block _ (by simp)).trans (Blk.new w 79 _)
          clear hb2
          go_wp2_with (refine wpList_store_row rfl 79 _ _ rfl w.heap.size #[.int .u8 0, .string ⟨#[]⟩, .int .i64 0, .int .i64 0, .int .i64 0, .int .i64 (q : Nat), .int .i64 (er : Nat)] rfl rfl 79 _ HY2.out (by kernel_rfl) (by kernel_rfl) (by kernel_rfl) ?_)
          refine bodyPost_ret (results_cell_row rfl _ _ w.heap.size 79 #[.int .u8 0, .string ⟨#[]⟩, .int .i64 0, .int .i64 0, .int .i64 0, .int .i64 (q : Nat), .int .i64 (er : Nat)] (0, 0) _ rfl (setRow_heap _ w.heap.size _ _ 79 _ HY2.out) Try.underlying79 rfl (by kernel_rfl)) rfl ⟨by rw [HR.out]; rfl, below_setRow HB2.out (Nat.le_refl _) _⟩
        · have HR2 := Lib.hid hr
          rw [hr] at HR; clear hr
          go_wp2_with fail
          refine (HSI.out _).mono ?_
          intro e w2 hq
          obtain ⟨he, hb2⟩ := hq
          rw [HR2.out] at he
          unfold told toldV at he
          subst he
          have HB2 := Lib.hid (((Below.refl _ _).alloc (Nat.le_refl _) _).trans (hb2.mono (by simp)))
          have HY2 : Hid (Blk w2 w.heap.size 79 #[.int .u8 0, .string ⟨#[]⟩, .int .i64 0, .int .i64 0, .int .i64 0, .int .i64 0, .int .i64 0]) := (hb2.block _ (by simp)).trans (Blk.new w 79 _)
          clear hb2
          go_wp2_with (refine wpList_store_row rfl 79 _ _ rfl w.heap.size #[.int .u8 (t.kind : Nat), .string ⟨t.text.toArray⟩, .int .i64 (t.int : Nat), .int .i64 (t.place : Nat), .int .i64 (e1 : Nat), .int .i64 0, .int .i64 0] rfl rfl 79 _ HY2.out (by kernel_rfl) (by kernel_rfl) (by kernel_rfl) ?_)
          refine bodyPost_ret (results_cell_row rfl _ _ w.heap.size 79 #[.int .u8 (t.kind : Nat), .string ⟨t.text.toArray⟩, .int .i64 (t.int : Nat), .int .i64 (t.place : Nat), .int .i64 (e1 : Nat), .int .i64 0, .int .i64 0] (0, 0) _ rfl (setRow_heap _ w.heap.size _ _ 79 _ HY2.out) Try.underlying79 rfl (by kernel_rfl)) rfl ⟨by rw [HR.out]; rfl, below_setRow HB2.out (Nat.le_refl _) _⟩
    · have HDF := Lib.hid hdi
      have HR : Hid (oneL s i c0 = numT s i) := by rw [HON.out, HLF.out, HDF.out]; exact rfl
      go_wp2_with fail
      refine (HDI.out _).mono ?_
      rintro e w2 ⟨rfl, hw2⟩
      rw [hw2, hdi]
      clear hw2 w2
      rcases hr : numT s i with ⟨q, er⟩ | ⟨t, e1⟩
      · have HR2 := Lib.hid hr
        rw [hr] at HR; clear hr
        go_wp2_with fail
        refine (HNU.out HDF.out _).mono ?_
        intro e w2 hq
        obtain ⟨he, hb2⟩ := hq
        rw [HR2.out] at he
        unfold told toldV at he
        subst he
        have HB2 := Lib.hid (((Below.refl _ _).alloc (Nat.le_refl _) _).trans (hb2.mono (by simp)))
        have HY2 : Hid (Blk w2 w.heap.size 79 #[.int .u8 0, .string ⟨#[]⟩, .int .i64 0, .int .i64 0, .int .i64 0, .int .i64 0, .int .i64 0]) := (hb2.block _ (by simp)).trans (Blk.new w 79 _)
        clear hb2
        go_wp2_with (refine wpList_store_row rfl 79 _ _ rfl w.heap.size #[.int .u8 0, .string ⟨#[]⟩, .int .i64 0, .int .i64 0, .int .i64 0, .int .i64 (q : Nat), .int .i64 (er : Nat)] rfl rfl 79 _ HY2.out (by kernel_rfl) (by kernel_rfl) (by kernel_rfl) ?_)
        refine bodyPost_ret (results_cell_row rfl _ _ w.heap.size 79 #[.int .u8 0, .string ⟨#[]⟩, .int .i64 0, .int .i64 0, .int .i64 0, .int .i64 (q : Nat), .int .i64 (er : Nat)] (0, 0) _ rfl (setRow_heap _ w.heap.size _ _ 79 _ HY2.out) Try.underlying79 rfl (by kernel_rfl)) rfl ⟨by rw [HR.out]; rfl, below_setRow HB2.out (Nat.le_refl _) _⟩
      · have HR2 := Lib.hid hr
        rw [hr] at HR; clear hr
        go_wp2_with fail
        refine (HNU.out HDF.out _).mono ?_
        intro e w2 hq
        obtain ⟨he, hb2⟩ := hq
        rw [HR2.out] at he
        unfold told toldV at he
        subst he
        have HB2 := Lib.hid (((Below.refl _ _).alloc (Nat.le_refl _) _).trans (hb2.mono (by simp)))
        have HY2 : Hid (Blk w2 w.heap.size 79 #[.int .u8 0, .string ⟨#[]⟩, .int .i64 0, .int .i64 0, .int .i64 0, .int .i64 0, .int .i64 0]) := (hb2.block _ (by simp)).trans (Blk.new w 79 _)
        clear hb2
        go_wp2_with (refine wpList_store_row rfl 79 _ _ rfl w.heap.size #[.int .u8 (t.kind : Nat), .string ⟨t.text.toArray⟩, .int .i64 (t.int : Nat), .int .i64 (t.place : Nat), .int .i64 (e1 : Nat), .int .i64 0, .int .i64 0] rfl rfl 79 _ HY2.out (by kernel_rfl) (by kernel_rfl) (by kernel_rfl) ?_)
        refine bodyPost_ret (results_cell_row rfl _ _ w.heap.size 79 #[.int .u8 (t.kind : Nat), .string ⟨t.text.toArray⟩, .int .i64 (t.int : Nat), .int .i64 (t.place : Nat), .int .i64 (e1 : Nat), .int .i64 0, .int .i64 0] (0, 0) _ rfl (setRow_heap _ w.heap.size _ _ 79 _ HY2.out) Try.underlying79 rfl (by kernel_rfl)) rfl ⟨by rw [HR.out]; rfl, below_setRow HB2.out (Nat.le_refl _) _⟩
  · have HR : Hid (oneL s i c0 = wordL s i) := by rw [HON.out, hlo]; exact rfl
    rcases hr : wordL s i with ⟨q, er⟩ | ⟨t, e1⟩
    · have HR2 := Lib.hid hr
      rw [hr] at HR; clear hr
      go_wp2_with fail
      refine (HWO.out _).mono ?_
      intro e w2 hq
      obtain ⟨he, hb2⟩ := hq
      rw [HR2.out] at he
      unfold told toldV at he
      subst he
      have HB2 := Lib.hid (((Below.refl _ _).alloc (Nat.le_refl _) _).trans (hb2.mono (by simp)))
      have HY2 : Hid (Blk w2 w.heap.size 79 #[.int .u8 0, .string ⟨#[]⟩, .int .i64 0, .int .i64 0, .int .i64 0, .int .i64 0, .int .i64 0]) := (hb2.block _ (by simp)).trans (Blk.new w 79 _)
      clear hb2
      go_wp2_with (refine wpList_store_row rfl 79 _ _ rfl w.heap.size #[.int .u8 0, .string ⟨#[]⟩, .int .i64 0, .int .i64 0, .int .i64 0, .int .i64 (q : Nat), .int .i64 (er : Nat)] rfl rfl 79 _ HY2.out (by kernel_rfl) (by kernel_rfl) (by kernel_rfl) ?_)
      refine bodyPost_ret (results_cell_row rfl _ _ w.heap.size 79 #[.int .u8 0, .string ⟨#[]⟩, .int .i64 0, .int .i64 0, .int .i64 0, .int .i64 (q : Nat), .int .i64 (er : Nat)] (0, 0) _ rfl (setRow_heap _ w.heap.size _ _ 79 _ HY2.out) Try.underlying79 rfl (by kernel_rfl)) rfl ⟨by rw [HR.out]; rfl, below_setRow HB2.out (Nat.le_refl _) _⟩
    · have HR2 := Lib.hid hr
      rw [hr] at HR; clear hr
      go_wp2_with fail
      refine (HWO.out _).mono ?_
      intro e w2 hq
      obtain ⟨he, hb2⟩ := hq
      rw [HR2.out] at he
      unfold told toldV at he
      subst he
      have HB2 := Lib.hid (((Below.refl _ _).alloc (Nat.le_refl _) _).trans (hb2.mono (by simp)))
      have HY2 : Hid (Blk w2 w.heap.size 79 #[.int .u8 0, .string ⟨#[]⟩, .int .i64 0, .int .i64 0, .int .i64 0, .int .i64 0, .int .i64 0]) := (hb2.block _ (by simp)).trans (Blk.new w 79 _)
      clear hb2
      go_wp2_with (refine wpList_store_row rfl 79 _ _ rfl w.heap.size #[.int .u8 (t.kind : Nat), .string ⟨t.text.toArray⟩, .int .i64 (t.int : Nat), .int .i64 (t.place : Nat), .int .i64 (e1 : Nat), .int .i64 0, .int .i64 0] rfl rfl 79 _ HY2.out (by kernel_rfl) (by kernel_rfl) (by kernel_rfl) ?_)
      refine bodyPost_ret (results_cell_row rfl _ _ w.heap.size 79 #[.int .u8 (t.kind : Nat), .string ⟨t.text.toArray⟩, .int .i64 (t.int : Nat), .int .i64 (t.place : Nat), .int .i64 (e1 : Nat), .int .i64 0, .int .i64 0] (0, 0) _ rfl (setRow_heap _ w.heap.size _ _ 79 _ HY2.out) Try.underlying79 rfl (by kernel_rfl)) rfl ⟨by rw [HR.out]; rfl, below_setRow HB2.out (Nat.le_refl _) _⟩
end Go.Proofs.Ytbcadlocldplfaa
namespace Go.Proofs.Ytbcadlocldplfaa
set_option maxRecDepth 100000
open Go.RowKit

theorem one_err {s : List UInt8} {i : Nat} {c : UInt8} {q er : Nat} (h : oneL s i c = .inl (q, er)) : er ≠ 0 := by
  unfold oneL at h
  split at h
  · unfold wordL at h
    split at h
    · injection h with h; injection h with _ h; omega
    · cases h
  · split at h
    · unfold numT at h
      split at h
      · cases h
      · rename_i h0; injection h with h; injection h with _ h; rw [← h]; exact h0
    · split at h
      · unfold textT at h
        split at h
        · cases h
        · rename_i h0; injection h with h; injection h with _ h; rw [← h]; exact h0
      · unfold signL at h
        split at h
        · injection h with h; injection h with _ h; omega
        · split at h
          · injection h with h; injection h with _ h; omega
          · split at h
            · split at h <;> cases h
            · injection h with h; injection h with _ h; omega

set_option maxRecDepth 100000 in
set_option maxHeartbeats 8000000 in
theorem refAll_any (s : List UInt8) (hs : s.length ≤ 100000) (w : World) :
    Calls Try.prog 26 #[.string ⟨s.toArray⟩] w (AllPost w (srcL s)) := by
  obtain ⟨st, hst⟩ : ∃ st : ByteArray, st = ⟨s.toArray⟩ := ⟨_, rfl⟩
  have hsz : st.size = s.length := by rw [hst]; rfl
  obtain ⟨n, hn⟩ : ∃ n, n = s.length := ⟨_, rfl⟩
  obtain ⟨R, hR⟩ : ∃ R, R = srcL s := ⟨_, rfl⟩
  have HSK := Lib.hid (fun i (hi : i ≤ s.length) W => skip_any s i hs hi W)
  have HON := Lib.hid (fun i c (hc : s[i]? = some c) W => refOne_any s i c hs hc W)
  rw [← hst] at HSK HON ⊢
  rw [← hR]
  rw [← hn] at hsz hs
  have HN := Lib.hid hn
  have HR0 := Lib.hid hR
  clear hst hn hR
  go_enter Try.func26, Try.ntmps26
  by_cases hlong : 16384 < n
  · have HR : Hid (R = ([], 0, 2)) := by rw [HR0.out]; unfold srcL; rw [if_pos (by rw [← HN.out]; exact hlong)]; exact rfl
    go_wp2_with fail
    go_ret3
    exact ⟨none, 0, by rw [HR.out]; rfl, by rw [HR.out]; exact World.ownsRow_nil _ _ _ _, Below.refl _ _⟩
  · have HR1 : Hid (allL s 0 [] = R) := by rw [HR0.out]; unfold srcL; rw [if_neg (by rw [← HN.out]; exact hlong)]; exact rfl
    go_wp2_with fail
    refine (HSK.out 0 (Nat.zero_le _) _).mono ?_
    rintro e w2 ⟨⟨j0, rfl, hj0⟩, rfl⟩
    have HJ0 := Lib.hid hj0
    clear hj0
    go_wp2_with fail
    go_loopw [5, 6] (fun s5 s6 wr => ∃ (i : Nat) (l : List Tok) (A : Option Addr) (cap : Nat), s6 = .int .i64 i ∧ s5 = .slice A l.length cap ∧ i ≤ n ∧ l.length ≤ i ∧ allL s i l = R ∧ (∀ c, s[i]? = some c → c ≠ 32 ∧ c ≠ 10 ∧ c ≠ 35) ∧ wr.ownsRow w2.heap.size 42 4 (.slice A l.length cap) l.length (tcells l) ∧ Below w2.heap.size w2 wr) (fun _ s6 _ => n - (intOf s6).toNat)
    case atStart => exact ⟨j0, [], none, 0, rfl, rfl, by rw [HN.out]; exact HJ0.out.2.1, by simp, by rw [← HJ0.out.2.2.1]; exact HR1.out, HJ0.out.2.2.2, World.ownsRow_nil _ _ _ _, Below.refl _ _⟩
    case round =>
      obtain ⟨i, l, A, cap, rfl, rfl, hin, hli, hR, hnb, ho, hb⟩ := hrel
      have HB := Lib.hid hb
      obtain ⟨m, hm⟩ : ∃ m, m = l.length := ⟨_, rfl⟩
      rw [← hm] at ho hli ⊢
      have HO := Lib.hid ho
      have HM := Lib.hid hm
      have HSTEP := Lib.hid hR
      have HNB := Lib.hid hnb
      clear hR hb ho hm hnb
      obtain ⟨wo, rfl⟩ : ∃ wo : World, wo = wr := ⟨_, rfl⟩
      by_cases hlt : i < n
      · have hks : i < s.length := by rw [← HN.out]; exact hlt
        obtain ⟨c, hc⟩ : ∃ c, s[i]? = some c := ⟨_, List.getElem?_eq_getElem hks⟩
        have HC := Lib.hid hc
        have HCL := Lib.hid (fun W => HON.out i c hc W)
        have HNX := Lib.hid (fun (t : Tok) (e : Nat) (h : oneL s i c = .inr (t, e)) => oneL_next hc h)
        clear hks hc
        rcases hone : oneL s i c with ⟨q, er⟩ | ⟨t, e1⟩
        · have her := one_err hone
          have HR : Hid (R = ([], q, er)) := by rw [← HSTEP.out]; exact all_bad HC.out (HNB.out c HC.out).1 (HNB.out c HC.out).2.1 (HNB.out c HC.out).2.2 hone l
          have hbe : ((er : Int) != 0) = true := by rw [bne_iff_ne]; omega
          have HONE := Lib.hid hone
          clear her hone
          go_wp2_with fail
          refine (HCL.out _).mono ?_
          intro e w3 hq
          obtain ⟨he, hb3⟩ := hq
          have he2 : e = .returned (.agg #[.int .u8 0, .string ⟨#[]⟩, .int .i64 0, .int .i64 0, .int .i64 0, .int .i64 (q : Nat), .int .i64 (er : Nat)]) := by rw [he, HONE.out]; exact rfl
          clear he
          subst he2
          have HB3 := Lib.hid (HB.out.trans (hb3.mono HB.out.size))
          clear hb3
          go_wp2_with fail
          go_quiet (fail)
          go_wp2_with fail
          go_ret3
          exact ⟨none, 0, by rw [HR.out]; rfl, by rw [HR.out]; exact World.ownsRow_nil _ _ _ _, below_drewN (HB3.out.alloc HB3.out.size _) _⟩
        · have hnx := HNX.out t e1 hone
          obtain ⟨hnx1, hnx2⟩ := hnx
          have HE1 := Lib.hid hnx2
          rw [← HN.out] at hnx2
          have HR2 : Hid (allL s e1 (l ++ [t]) = R) := by rw [← HSTEP.out]; exact (all_tok HC.out (HNB.out c HC.out).1 (HNB.out c HC.out).2.1 (HNB.out c HC.out).2.2 hone l).symm
          have HONE := Lib.hid hone
          clear hone
          obtain ⟨tb, htb⟩ : ∃ b : ByteArray, b = ⟨t.text.toArray⟩ := ⟨_, rfl⟩
          have HTC : Hid (tokCells t = [.int .u8 (t.kind : Nat), .string tb, .int .i64 (t.int : Nat), .int .i64 (t.place : Nat)]) := by rw [htb]; exact rfl
          have HTB := Lib.hid htb
          clear htb
          go_wp2_with fail
          refine (HCL.out _).mono ?_
          intro e w3 hq
          obtain ⟨he, hb3⟩ := hq
          have he2 : e = .returned (.agg #[.int .u8 (t.kind : Nat), .string ⟨t.text.toArray⟩, .int .i64 (t.int : Nat), .int .i64 (t.place : Nat), .int .i64 (e1 : Nat), .int .i64 0, .int .i64 0]) := by rw [he, HONE.out]; exact rfl
          clear he
          rw [← HTB.out] at he2
          subst he2
          have HB3 := Lib.hid (HB.out.trans (hb3.mono HB.out.size))
          have HO3 := Lib.hid (own_below HO.out hb3)
          have HBK : Hid (Blk (w3.alloc (.cells #[.int .u8 (t.kind : Nat), .string tb, .int .i64 (t.int : Nat), .int .i64 (t.place : Nat), .int .i64 (e1 : Nat), .int .i64 0, .int .i64 0] 79)) w3.heap.size 79 #[.int .u8 (t.kind : Nat), .string tb, .int .i64 (t.int : Nat), .int .i64 (t.place : Nat), .int .i64 (e1 : Nat), .int .i64 0, .int .i64 0]) := Blk.new w3 79 _
          clear hb3
          go_wp2_with (at_builtin; refine wpList_app_tok rfl (.tmp 27) (.tmp 30) rfl w2.heap.size (w3.heap.size + 1) m A cap l t rfl ((HO3.out.alloc _).alloc _) rfl (by rw [HTC.out]; exact new2 w3 _ _) (by omega) (by have := HB3.out.size; simp; omega) ?_; intro A3 c3 w4 ho4 hg4; have hcell : w4.cell? ⟨w3.heap.size, 4, none⟩ = some (.int .i64 (e1 : Nat)) := ((HBK.out.alloc _).grown hg4 (fun h => absurd (World.ownsRow.lt HO3.out _ h.symm).2 (Nat.lt_irrefl _))).cell 4; have HO4 := Lib.hid ho4; have HG4 := Lib.hid hg4; clear ho4 hg4)
          refine (HSK.out e1 HE1.out w4).mono ?_
          rintro e w5 ⟨⟨j, rfl, hj⟩, hw5⟩
          rw [hw5]
          clear hw5 w5
          have HJ := Lib.hid hj
          have hj1 := hj.1
          have hj2 := hj.2.1
          rw [← HN.out] at hj2
          clear hj
          go_wp2_with fail
          go_roundw
          case rel => exact ⟨j, l ++ [t], A3, c3, rfl, by rw [List.length_append, ← HM.out]; rfl, hj2, by rw [List.length_append, ← HM.out]; simp; omega, by rw [← HJ.out.2.2.1]; exact HR2.out, HJ.out.2.2.2, by rw [List.length_append, ← HM.out]; exact HO4.out, ((HB3.out.alloc HB3.out.size _).alloc (by have := HB3.out.size; simp; omega) _).grown HG4.out (by have := HB3.out.size; simp; omega) (fun g hg => (World.ownsRow.lt HO.out g hg).1)⟩
          case measure => simp [intOf]; omega
      · have HR : Hid (R = (l, 0, 0)) := by rw [← HSTEP.out]; exact all_end (by rw [← HN.out]; omega)
        go_wp2_with fail
        go_ret3
        exact ⟨A, cap, by rw [HR.out, HM.out]; rfl, by rw [HR.out, ← HM.out]; exact HO.out, HB.out⟩
end Go.Proofs.Ytbcadlocldplfaa
