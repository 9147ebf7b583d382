/- Contract of the document's number. -/
import Derived.Laws.CopyOwn
import Derived.WalkLawsBesides
import Derived.Test.YtlfkiaphmifelaaNuq
import Derived.Test.YtlfkiaphmifelaaWrg
namespace Go.Proofs.Ytlfkiaphmifelaa
open Go.RowKit

set_option maxHeartbeats 8000000 in
theorem refNumber_any (s : List UInt8) (i : Nat) (c0 : UInt8) (hs : s.length ≤ 100000) (hc0 : s[i]? = some c0) (hd0 : digB c0 = true) (w : World) :
    Calls Try.prog 26 #[.string ⟨s.toArray⟩, .int .i64 (i : Nat)] w (ToldPost w (numT s i)) := by
  obtain ⟨st, hst⟩ : ∃ st : ByteArray, st = ⟨s.toArray⟩ := ⟨_, rfl⟩
  have hsz : st.size = s.length := by rw [hst]; rfl
  obtain ⟨n, hn⟩ : ∃ n, n = s.length := ⟨_, rfl⟩
  obtain ⟨E, hE⟩ : ∃ E, E = scan digB s i := ⟨_, rfl⟩
  have hil : i < s.length := (List.getElem?_eq_some_iff.1 hc0).1
  have hsi : s[i] = c0 := by have h := hc0; rw [List.getElem?_eq_getElem hil] at h; injection h
  have hEn : E ≤ n := by rw [hE, hn]; exact scan_le _ _ (by omega)
  have hiE : i + 1 ≤ E := by rw [hE, scan_step digB s hil (by rw [hsi]; exact hd0)]; exact scan_ge _ _ _
  have hist0 : i < st.size := by omega
  obtain ⟨v0, hv0⟩ : ∃ v, v = c0.toNat := ⟨_, rfl⟩
  have hg0 : st[i].toNat = v0 := by rw [hv0, ← hsi, st_get hst hist0 hil]
  have hv0l : v0 < 256 := by rw [hv0]; exact UInt8.toNat_lt _
  have HC48 : Hid (s[i]? = some 48 ↔ v0 = 48) := by
    rw [hc0, hv0]
    constructor
    · intro h; injection h with h; rw [h]; rfl
    · intro h; exact congrArg some (UInt8.toNat_inj.1 (by rw [h]; rfl))
  rw [← hst]
  rw [← hn] at hsz hs hil
  have HST := Lib.hid hst
  have HN := Lib.hid hn
  have HE := Lib.hid hE
  clear hst hn hE hsi hc0 hd0 hv0
  go_enter Try.func26, Try.ntmps26
  go_wp2_with fail
  go_loopw [5] (fun s5 wr => (∃ k : Nat, s5 = .int .i64 k ∧ i ≤ k ∧ k ≤ E ∧ scan digB s k = E) ∧ wr = w.alloc (.cells #[.int .u8 0, .string ⟨#[]⟩, .int .i64 0, .int .i64 0, .int .i64 0, .int .i64 0, .int .i64 0] 43)) (fun s5 _ => n - (intOf s5).toNat)
  case atStart => exact ⟨⟨i, rfl, Nat.le_refl _, by omega, HE.out.symm⟩, rfl⟩
  case round =>
    obtain ⟨⟨k, rfl, hik, hkE, hsc⟩, hw⟩ := hrel
    have HX := Lib.hid (And.intro hsc hw)
    clear hsc hw
    by_cases hlt : k < n
    · have hks : k < s.length := by rw [← HN.out]; exact hlt
      obtain ⟨ch, hch⟩ : ∃ c, c = s[k] := ⟨_, rfl⟩
      have hkst : k < st.size := by omega
      have hg : st[k] = ch := by rw [hch]; exact st_get HST.out hkst hks
      have HCK : Hid (s[k]? = some ch) := by rw [hch]; exact List.getElem?_eq_getElem hks
      have HSP : Hid (digB ch = false → k = E) := fun hd => by rw [← HX.out.1]; exact (scan_stop _ _ hks (by rw [← hch]; exact hd)).symm
      have HST2 : Hid (digB ch = true → scan digB s (k + 1) = E) := fun hd => by rw [← HX.out.1]; exact (scan_step _ _ hks (by rw [← hch]; exact hd)).symm
      clear hch hks
      have hcl : ch.toNat < 256 := UInt8.toNat_lt _
      have HDI := Lib.hid (dig_any ch wr)
      have HLO := Lib.hid (low_any ch wr)
      have HIN : Hid (innB ch = (lowB ch || digB ch || decide (ch.toNat = 95))) := rfl
      obtain ⟨cv, hcv⟩ : ∃ v, v = ch.toNat := ⟨_, rfl⟩
      have hg2 : st[k].toNat = cv := by rw [hg, hcv]
      rw [← hcv] at HDI HLO HIN hcl
      clear hg hcv
      cases hdi : digB ch
      · have hkE2 := HSP.out hdi
        have HDF := Lib.hid hdi
        have hbw : Below w.heap.size w wr := by rw [HX.out.2]; exact (Below.refl _ _).alloc (Nat.le_refl _) _
        have HBW := Lib.hid hbw
        have hy : Blk wr w.heap.size 43 #[.int .u8 0, .string ⟨#[]⟩, .int .i64 0, .int .i64 0, .int .i64 0, .int .i64 0, .int .i64 0] := by rw [HX.out.2]; exact Blk.new w 43 _
        have HY := Lib.hid hy
        have hszr : w.heap.size < wr.heap.size := hy.lt
        have HEK : Hid (scan digB s i = k) := by rw [← HE.out]; exact hkE2.symm
        have hik2 : i + 1 ≤ k := by omega
        clear hbw hy hkE2
        by_cases hz : v0 = 48 ∧ i + 1 < k
        · obtain ⟨hz1, hz2⟩ := hz
          have HR : Hid (numT s i = .inl (i + 1, 9)) := by unfold numT; rw [numL_zero (HC48.out.2 hz1) (by rw [HEK.out]; exact hz2)]; exact rfl
          have hb0 : ((v0 : Int) == 48) = true := by rw [hz1]; rfl
          have hb1 : decide ((i : Int) + 1 < (k : Int)) = true := decide_eq_true (by omega)
          clear hz1
          go_wp2_with fail
          refine HDI.out.mono ?_
          rintro e w3 ⟨rfl, hw3⟩
          rw [hw3, hdi]
          clear hw3 w3
          go_wp2_with fail
          refine (wrong_any (i + 1) 9 wr).mono ?_
          rintro e w2 ⟨rfl, hb2⟩
          unfold told toldV
          have HB2 := Lib.hid (HBW.out.trans (hb2.mono HBW.out.size))
          have HY2 : Hid (Blk w2 w.heap.size 43 #[.int .u8 0, .string ⟨#[]⟩, .int .i64 0, .int .i64 0, .int .i64 0, .int .i64 0, .int .i64 0]) := (hb2.block _ hszr).trans HY.out
          clear hb2
          go_wp2_with (refine wpList_store_row rfl 43 _ _ rfl w.heap.size #[.int .u8 0, .string ⟨#[]⟩, .int .i64 0, .int .i64 0, .int .i64 0, .int .i64 (i + 1 : Nat), .int .i64 9] rfl rfl 43 _ HY2.out (by kernel_rfl) (by kernel_rfl) (by kernel_rfl) ?_)
          refine bodyPost_ret (results_cell_row rfl _ _ w.heap.size 43 #[.int .u8 0, .string ⟨#[]⟩, .int .i64 0, .int .i64 0, .int .i64 0, .int .i64 (i + 1 : Nat), .int .i64 9] (0, 0) _ rfl (setRow_heap _ w.heap.size _ _ 43 _ HY2.out) Try.underlying43 rfl (by kernel_rfl)) rfl ⟨by rw [HR.out]; rfl, below_setRow HB2.out (Nat.le_refl _) _⟩
        · have HZ : Hid (¬ (s[i]? = some 48 ∧ i + 1 < scan digB s i)) := fun h => hz ⟨HC48.out.1 h.1, by have := h.2; rw [HEK.out] at this; exact this⟩
          have H48 : Hid (i + 1 < k → s[i]? ≠ some 48) := fun h1 h2 => hz ⟨HC48.out.1 h2, h1⟩
          by_cases hlong : 9223372036854775807 < val (cutL s i k)
          · have HR : Hid (numT s i = .inl (i, 2)) := by unfold numT; rw [numL_long HZ.out (by rw [HEK.out]; exact hlong)]; exact rfl
            have hle : 19 ≤ k - i := by
              rcases Nat.lt_or_ge (k - i) 19 with h | h
              · have := big_short HEK.out h; omega
              · exact h
            have hb0 : ((v0 : Int) == 48) = false := by rw [beq_eq_false_iff_ne]; intro h; exact hz ⟨by omega, by omega⟩
            clear hz
            by_cases h19 : 19 < k - i
            · have hb19 : decide ((19 : Int) < (k : Int) - (i : Int)) = true := decide_eq_true (by omega)
              clear hlong
              go_wp2_with fail
              refine HDI.out.mono ?_
              rintro e w3 ⟨rfl, hw3⟩
              rw [hw3, hdi]
              clear hw3 w3
              go_wp2_with fail
              refine (wrong_any (i) 2 wr).mono ?_
              rintro e w2 ⟨rfl, hb2⟩
              unfold told toldV
              have HB2 := Lib.hid (HBW.out.trans (hb2.mono HBW.out.size))
              have HY2 : Hid (Blk w2 w.heap.size 43 #[.int .u8 0, .string ⟨#[]⟩, .int .i64 0, .int .i64 0, .int .i64 0, .int .i64 0, .int .i64 0]) := (hb2.block _ hszr).trans HY.out
              clear hb2
              go_wp2_with (refine wpList_store_row rfl 43 _ _ rfl w.heap.size #[.int .u8 0, .string ⟨#[]⟩, .int .i64 0, .int .i64 0, .int .i64 0, .int .i64 (i : Nat), .int .i64 2] rfl rfl 43 _ HY2.out (by kernel_rfl) (by kernel_rfl) (by kernel_rfl) ?_)
              refine bodyPost_ret (results_cell_row rfl _ _ w.heap.size 43 #[.int .u8 0, .string ⟨#[]⟩, .int .i64 0, .int .i64 0, .int .i64 0, .int .i64 (i : Nat), .int .i64 2] (0, 0) _ rfl (setRow_heap _ w.heap.size _ _ 43 _ HY2.out) Try.underlying43 rfl (by kernel_rfl)) rfl ⟨by rw [HR.out]; rfl, below_setRow HB2.out (Nat.le_refl _) _⟩
            · have HBG : Hid (bigB (cutL s i k) = true) := by rw [big_19 HEK.out (by omega)]; exact decide_eq_true hlong
              clear hlong
              have hbb : Op.bytesLess (cutL s i k) most19 = false ∧ (cutL s i k == most19) = false := by have h := HBG.out; unfold bigB at h; simpa [Bool.or_eq_false_iff] using h
              obtain ⟨hbl, hbe⟩ := hbb
              have hb19 : decide ((19 : Int) < (k : Int) - (i : Int)) = false := decide_eq_false (by omega)
              have hb20 : ((k : Int) - (i : Int) == 19) = true := by rw [beq_iff_eq]; omega
              have hsl := run_slice_string (P := Try.prog) (w := wr) 9 st .i64 .i64 (i : Nat) (k : Nat) Try.underlying9 (by omega) (by omega) (by omega)
              simp only [Int.toNat_natCast] at hsl
              have hex : st.extract i k = ⟨(cutL s i k).toArray⟩ := by rw [HST.out]; exact extract_cut s i k
              rw [hex] at hsl
              clear hex
              go_wp2_with fail
              refine HDI.out.mono ?_
              rintro e w3 ⟨rfl, hw3⟩
              rw [hw3, hdi]
              clear hw3 w3
              go_wp2_with fail
              refine (wrong_any (i) 2 wr).mono ?_
              rintro e w2 ⟨rfl, hb2⟩
              unfold told toldV
              have HB2 := Lib.hid (HBW.out.trans (hb2.mono HBW.out.size))
              have HY2 : Hid (Blk w2 w.heap.size 43 #[.int .u8 0, .string ⟨#[]⟩, .int .i64 0, .int .i64 0, .int .i64 0, .int .i64 0, .int .i64 0]) := (hb2.block _ hszr).trans HY.out
              clear hb2
              go_wp2_with (refine wpList_store_row rfl 43 _ _ rfl w.heap.size #[.int .u8 0, .string ⟨#[]⟩, .int .i64 0, .int .i64 0, .int .i64 0, .int .i64 (i : Nat), .int .i64 2] rfl rfl 43 _ HY2.out (by kernel_rfl) (by kernel_rfl) (by kernel_rfl) ?_)
              refine bodyPost_ret (results_cell_row rfl _ _ w.heap.size 43 #[.int .u8 0, .string ⟨#[]⟩, .int .i64 0, .int .i64 0, .int .i64 0, .int .i64 (i : Nat), .int .i64 2] (0, 0) _ rfl (setRow_heap _ w.heap.size _ _ 43 _ HY2.out) Try.underlying43 rfl (by kernel_rfl)) rfl ⟨by rw [HR.out]; rfl, below_setRow HB2.out (Nat.le_refl _) _⟩
          · have hvm : val (cutL s i k) ≤ 9223372036854775807 := by omega
            have HVM := Lib.hid hvm
            clear hvm
            have h19 : k - i ≤ 19 := by
              rcases Nat.lt_or_ge 19 (k - i) with h | h
              · have := big_long HEK.out (H48.out (by omega)) h; omega
              · exact h
            have HBG : Hid (k - i = 19 → bigB (cutL s i k) = false) := fun h => by rw [big_19 HEK.out h]; exact decide_eq_false hlong
            clear hlong
            have hb19 : decide ((19 : Int) < (k : Int) - (i : Int)) = false := decide_eq_false (by omega)
            by_cases h0 : v0 = 48
            · have hki : k = i + 1 := by rcases Nat.lt_or_ge (i + 1) k with h | h; exact absurd ⟨h0, h⟩ hz; omega
              have hb0 : ((v0 : Int) == 48) = true := by rw [h0]; rfl
              have hb1 : decide ((i : Int) + 1 < (k : Int)) = false := decide_eq_false (by omega)
              have hb20 : ((k : Int) - (i : Int) == 19) = false := by rw [beq_eq_false_iff_ne]; omega
              clear hz h0 hki
              by_cases hin : innB ch = true
              · have HR : Hid (numT s i = .inl (k, 9)) := by
                  unfold numT; rw [numL_next HEK.out H48.out HVM.out (by rw [← HN.out]; exact hlt)]
                  have hsk : s[k]'(by rw [← HN.out]; exact hlt) = ch := by have h := HCK.out; rw [List.getElem?_eq_getElem (by rw [← HN.out]; exact hlt)] at h; injection h
                  rw [hsk, hin]; exact rfl
                rw [HIN.out, HDF.out] at hin
                cases hlo : lowB ch
                · have h95 : cv = 95 := by rw [hlo] at hin; simpa using hin
                  have hb95 : ((cv : Int) == 95) = true := by rw [h95]; rfl
                  clear hin h95
                  go_wp2_with fail
                  refine HDI.out.mono ?_
                  rintro e w3 ⟨rfl, hw3⟩
                  rw [hw3, hdi]
                  clear hw3 w3
                  go_wp2_with fail
                  refine HLO.out.mono ?_
                  rintro e w3 ⟨rfl, hw3⟩
                  rw [hw3, hlo]
                  clear hw3 w3
                  go_wp2_with fail
                  refine (wrong_any (k) 9 wr).mono ?_
                  rintro e w2 ⟨rfl, hb2⟩
                  unfold told toldV
                  have HB2 := Lib.hid (HBW.out.trans (hb2.mono HBW.out.size))
                  have HY2 : Hid (Blk w2 w.heap.size 43 #[.int .u8 0, .string ⟨#[]⟩, .int .i64 0, .int .i64 0, .int .i64 0, .int .i64 0, .int .i64 0]) := (hb2.block _ hszr).trans HY.out
                  clear hb2
                  go_wp2_with (refine wpList_store_row rfl 43 _ _ rfl w.heap.size #[.int .u8 0, .string ⟨#[]⟩, .int .i64 0, .int .i64 0, .int .i64 0, .int .i64 (k : Nat), .int .i64 9] rfl rfl 43 _ HY2.out (by kernel_rfl) (by kernel_rfl) (by kernel_rfl) ?_)
                  refine bodyPost_ret (results_cell_row rfl _ _ w.heap.size 43 #[.int .u8 0, .string ⟨#[]⟩, .int .i64 0, .int .i64 0, .int .i64 0, .int .i64 (k : Nat), .int .i64 9] (0, 0) _ rfl (setRow_heap _ w.heap.size _ _ 43 _ HY2.out) Try.underlying43 rfl (by kernel_rfl)) rfl ⟨by rw [HR.out]; rfl, below_setRow HB2.out (Nat.le_refl _) _⟩
                · clear hin
                  go_wp2_with fail
                  refine HDI.out.mono ?_
                  rintro e w3 ⟨rfl, hw3⟩
                  rw [hw3, hdi]
                  clear hw3 w3
                  go_wp2_with fail
                  refine HLO.out.mono ?_
                  rintro e w3 ⟨rfl, hw3⟩
                  rw [hw3, hlo]
                  clear hw3 w3
                  go_wp2_with fail
                  refine (wrong_any (k) 9 wr).mono ?_
                  rintro e w2 ⟨rfl, hb2⟩
                  unfold told toldV
                  have HB2 := Lib.hid (HBW.out.trans (hb2.mono HBW.out.size))
                  have HY2 : Hid (Blk w2 w.heap.size 43 #[.int .u8 0, .string ⟨#[]⟩, .int .i64 0, .int .i64 0, .int .i64 0, .int .i64 0, .int .i64 0]) := (hb2.block _ hszr).trans HY.out
                  clear hb2
                  go_wp2_with (refine wpList_store_row rfl 43 _ _ rfl w.heap.size #[.int .u8 0, .string ⟨#[]⟩, .int .i64 0, .int .i64 0, .int .i64 0, .int .i64 (k : Nat), .int .i64 9] rfl rfl 43 _ HY2.out (by kernel_rfl) (by kernel_rfl) (by kernel_rfl) ?_)
                  refine bodyPost_ret (results_cell_row rfl _ _ w.heap.size 43 #[.int .u8 0, .string ⟨#[]⟩, .int .i64 0, .int .i64 0, .int .i64 0, .int .i64 (k : Nat), .int .i64 9] (0, 0) _ rfl (setRow_heap _ w.heap.size _ _ 43 _ HY2.out) Try.underlying43 rfl (by kernel_rfl)) rfl ⟨by rw [HR.out]; rfl, below_setRow HB2.out (Nat.le_refl _) _⟩
              · have hin : innB ch = false := by simpa using hin
                have HR : Hid (numT s i = .inr (⟨2, [], val (cutL s i k), i⟩, k)) := by
                  unfold numT; rw [numL_next HEK.out H48.out HVM.out (by rw [← HN.out]; exact hlt)]
                  have hsk : s[k]'(by rw [← HN.out]; exact hlt) = ch := by have h := HCK.out; rw [List.getElem?_eq_getElem (by rw [← HN.out]; exact hlt)] at h; injection h
                  rw [hsk, hin]; exact rfl
                rw [HIN.out, HDF.out] at hin
                have hlo : lowB ch = false := by cases h : lowB ch <;> simp_all
                have h95 : ¬ cv = 95 := by rw [hlo] at hin; simpa using hin
                have hb95 : ((cv : Int) == 95) = false := by rw [beq_eq_false_iff_ne]; omega
                clear hin h95
                go_wp2_with fail
                refine HDI.out.mono ?_
                rintro e w3 ⟨rfl, hw3⟩
                rw [hw3, hdi]
                clear hw3 w3
                go_wp2_with fail
                refine HLO.out.mono ?_
                rintro e w3 ⟨rfl, hw3⟩
                rw [hw3, hlo]
                clear hw3 w3
                go_wp2_with fail
                go_loopw [6, 7] (fun s6 s7 wx => wx = wr ∧ ∃ (j x : Nat), s6 = .int .i64 x ∧ s7 = .int .i64 j ∧ i ≤ j ∧ j ≤ k ∧ x = val (cutL s i j)) (fun _ s7 _ => k - (intOf s7).toNat)
                case atStart => exact ⟨rfl, i, 0, rfl, rfl, Nat.le_refl _, by omega, by rw [cut_self]; rfl⟩
                case round =>
                  obtain ⟨rfl, j, x, rfl, rfl, hij, hjk, hx⟩ := hrel
                  have HJX := Lib.hid hx
                  clear hx
                  by_cases hjlt : j < k
                  · have hjs : j < s.length := by rw [← HN.out]; omega
                    obtain ⟨cj, hcj⟩ : ∃ c, c = s[j] := ⟨_, rfl⟩
                    have hjst : j < st.size := by omega
                    have hgj : st[j] = cj := by rw [hcj]; exact st_get HST.out hjst hjs
                    have hdj : digB cj = true := by
                      refine cut_all digB s i cj ?_
                      rw [HEK.out, cut_more s (i := i) (k := j) (e := k) hij hjk (by rw [← HN.out]; omega), cut_more s (i := j) (k := j + 1) (e := k) (by omega) (by omega) (by rw [← HN.out]; omega), cut_next s (Nat.le_refl j) hjs, cut_self, hcj]
                      simp
                    have hd2 : 48 ≤ cj.toNat ∧ cj.toNat ≤ 57 := by unfold digB at hdj; simpa using hdj
                    obtain ⟨hd3, hd4⟩ := hd2
                    have HNV : Hid (val (cutL s i (j + 1)) = 10 * x + (cj.toNat - 48)) := by rw [cut_next s hij hjs, val_snoc, ← hcj, ← HJX.out]; exact rfl
                    have hnx : 10 * x + (cj.toNat - 48) ≤ 9223372036854775807 := by
                      have h1 := val_mono (cutL s i (j + 1)) (cutL s (j + 1) k)
                      rw [← cut_more s (i := i) (k := j + 1) (e := k) (by omega) (by omega) (by rw [← HN.out]; omega), HNV.out] at h1
                      exact Nat.le_trans h1 HVM.out
                    obtain ⟨dj, hdj2⟩ : ∃ v, v = cj.toNat := ⟨_, rfl⟩
                    have hgj2 : st[j].toNat = dj := by rw [hgj, hdj2]
                    rw [← hdj2] at hd3 hd4 hnx HNV
                    clear hcj hjs hgj hdj hdj2
                    go_wp2_with fail
                    go_roundw
                    case rel => exact ⟨trivial, j + 1, 10 * x + (dj - 48), congrArg (Value.int .i64) (by omega), by go_num, by omega, by omega, HNV.out.symm⟩
                    case measure => simp [intOf]; omega
                  · obtain rfl : j = k := by omega
                    go_wp2_with (refine wpList_store_row rfl 43 _ _ rfl w.heap.size #[.int .u8 2, .string ⟨#[]⟩, .int .i64 (x : Nat), .int .i64 (i : Nat), .int .i64 (j : Nat), .int .i64 0, .int .i64 0] rfl rfl 43 _ HY.out (by kernel_rfl) (by kernel_rfl) (by kernel_rfl) ?_)
                    refine bodyPost_ret (results_cell_row rfl _ _ w.heap.size 43 #[.int .u8 2, .string ⟨#[]⟩, .int .i64 (x : Nat), .int .i64 (i : Nat), .int .i64 (j : Nat), .int .i64 0, .int .i64 0] (0, 0) _ rfl (setRow_heap _ w.heap.size _ _ 43 _ HY.out) Try.underlying43 rfl (by kernel_rfl)) rfl ⟨by rw [HR.out, HJX.out]; rfl, below_setRow HBW.out (Nat.le_refl _) _⟩
            · have hb0 : ((v0 : Int) == 48) = false := by rw [beq_eq_false_iff_ne]; omega
              clear hz h0
              by_cases h20 : k - i = 19
              · have hbq : Op.bytesLess (cutL s i k) most19 = true ∨ (cutL s i k == most19) = true := by have h := HBG.out h20; unfold bigB at h; revert h; cases Op.bytesLess (cutL s i k) most19 <;> cases (cutL s i k == most19) <;> simp
                have HBG2 := Lib.hid hbq
                clear HBG hbq
                have hb20 : ((k : Int) - (i : Int) == 19) = true := by rw [beq_iff_eq]; omega
                have hsl := run_slice_string (P := Try.prog) (w := wr) 9 st .i64 .i64 (i : Nat) (k : Nat) Try.underlying9 (by omega) (by omega) (by omega)
                simp only [Int.toNat_natCast] at hsl
                have hex : st.extract i k = ⟨(cutL s i k).toArray⟩ := by rw [HST.out]; exact extract_cut s i k
                rw [hex] at hsl
                clear hex
                clear h20
                rcases HBG2.out with hbl | hbl
                · by_cases hin : innB ch = true
                  · have HR : Hid (numT s i = .inl (k, 9)) := by
                      unfold numT; rw [numL_next HEK.out H48.out HVM.out (by rw [← HN.out]; exact hlt)]
                      have hsk : s[k]'(by rw [← HN.out]; exact hlt) = ch := by have h := HCK.out; rw [List.getElem?_eq_getElem (by rw [← HN.out]; exact hlt)] at h; injection h
                      rw [hsk, hin]; exact rfl
                    rw [HIN.out, HDF.out] at hin
                    cases hlo : lowB ch
                    · have h95 : cv = 95 := by rw [hlo] at hin; simpa using hin
                      have hb95 : ((cv : Int) == 95) = true := by rw [h95]; rfl
                      clear hin h95
                      go_wp2_with fail
                      refine HDI.out.mono ?_
                      rintro e w3 ⟨rfl, hw3⟩
                      rw [hw3, hdi]
                      clear hw3 w3
                      go_wp2_with fail
                      refine HLO.out.mono ?_
                      rintro e w3 ⟨rfl, hw3⟩
                      rw [hw3, hlo]
                      clear hw3 w3
                      go_wp2_with fail
                      refine (wrong_any (k) 9 wr).mono ?_
                      rintro e w2 ⟨rfl, hb2⟩
                      unfold told toldV
                      have HB2 := Lib.hid (HBW.out.trans (hb2.mono HBW.out.size))
                      have HY2 : Hid (Blk w2 w.heap.size 43 #[.int .u8 0, .string ⟨#[]⟩, .int .i64 0, .int .i64 0, .int .i64 0, .int .i64 0, .int .i64 0]) := (hb2.block _ hszr).trans HY.out
                      clear hb2
                      go_wp2_with (refine wpList_store_row rfl 43 _ _ rfl w.heap.size #[.int .u8 0, .string ⟨#[]⟩, .int .i64 0, .int .i64 0, .int .i64 0, .int .i64 (k : Nat), .int .i64 9] rfl rfl 43 _ HY2.out (by kernel_rfl) (by kernel_rfl) (by kernel_rfl) ?_)
                      refine bodyPost_ret (results_cell_row rfl _ _ w.heap.size 43 #[.int .u8 0, .string ⟨#[]⟩, .int .i64 0, .int .i64 0, .int .i64 0, .int .i64 (k : Nat), .int .i64 9] (0, 0) _ rfl (setRow_heap _ w.heap.size _ _ 43 _ HY2.out) Try.underlying43 rfl (by kernel_rfl)) rfl ⟨by rw [HR.out]; rfl, below_setRow HB2.out (Nat.le_refl _) _⟩
                    · clear hin
                      go_wp2_with fail
                      refine HDI.out.mono ?_
                      rintro e w3 ⟨rfl, hw3⟩
                      rw [hw3, hdi]
                      clear hw3 w3
                      go_wp2_with fail
                      refine HLO.out.mono ?_
                      rintro e w3 ⟨rfl, hw3⟩
                      rw [hw3, hlo]
                      clear hw3 w3
                      go_wp2_with fail
                      refine (wrong_any (k) 9 wr).mono ?_
                      rintro e w2 ⟨rfl, hb2⟩
                      unfold told toldV
                      have HB2 := Lib.hid (HBW.out.trans (hb2.mono HBW.out.size))
                      have HY2 : Hid (Blk w2 w.heap.size 43 #[.int .u8 0, .string ⟨#[]⟩, .int .i64 0, .int .i64 0, .int .i64 0, .int .i64 0, .int .i64 0]) := (hb2.block _ hszr).trans HY.out
                      clear hb2
                      go_wp2_with (refine wpList_store_row rfl 43 _ _ rfl w.heap.size #[.int .u8 0, .string ⟨#[]⟩, .int .i64 0, .int .i64 0, .int .i64 0, .int .i64 (k : Nat), .int .i64 9] rfl rfl 43 _ HY2.out (by kernel_rfl) (by kernel_rfl) (by kernel_rfl) ?_)
                      refine bodyPost_ret (results_cell_row rfl _ _ w.heap.size 43 #[.int .u8 0, .string ⟨#[]⟩, .int .i64 0, .int .i64 0, .int .i64 0, .int .i64 (k : Nat), .int .i64 9] (0, 0) _ rfl (setRow_heap _ w.heap.size _ _ 43 _ HY2.out) Try.underlying43 rfl (by kernel_rfl)) rfl ⟨by rw [HR.out]; rfl, below_setRow HB2.out (Nat.le_refl _) _⟩
                  · have hin : innB ch = false := by simpa using hin
                    have HR : Hid (numT s i = .inr (⟨2, [], val (cutL s i k), i⟩, k)) := by
                      unfold numT; rw [numL_next HEK.out H48.out HVM.out (by rw [← HN.out]; exact hlt)]
                      have hsk : s[k]'(by rw [← HN.out]; exact hlt) = ch := by have h := HCK.out; rw [List.getElem?_eq_getElem (by rw [← HN.out]; exact hlt)] at h; injection h
                      rw [hsk, hin]; exact rfl
                    rw [HIN.out, HDF.out] at hin
                    have hlo : lowB ch = false := by cases h : lowB ch <;> simp_all
                    have h95 : ¬ cv = 95 := by rw [hlo] at hin; simpa using hin
                    have hb95 : ((cv : Int) == 95) = false := by rw [beq_eq_false_iff_ne]; omega
                    clear hin h95
                    go_wp2_with fail
                    refine HDI.out.mono ?_
                    rintro e w3 ⟨rfl, hw3⟩
                    rw [hw3, hdi]
                    clear hw3 w3
                    go_wp2_with fail
                    refine HLO.out.mono ?_
                    rintro e w3 ⟨rfl, hw3⟩
                    rw [hw3, hlo]
                    clear hw3 w3
                    go_wp2_with fail
                    go_loopw [6, 7] (fun s6 s7 wx => wx = wr ∧ ∃ (j x : Nat), s6 = .int .i64 x ∧ s7 = .int .i64 j ∧ i ≤ j ∧ j ≤ k ∧ x = val (cutL s i j)) (fun _ s7 _ => k - (intOf s7).toNat)
                    case atStart => exact ⟨rfl, i, 0, rfl, rfl, Nat.le_refl _, by omega, by rw [cut_self]; rfl⟩
                    case round =>
                      obtain ⟨rfl, j, x, rfl, rfl, hij, hjk, hx⟩ := hrel
                      have HJX := Lib.hid hx
                      clear hx
                      by_cases hjlt : j < k
                      · have hjs : j < s.length := by rw [← HN.out]; omega
                        obtain ⟨cj, hcj⟩ : ∃ c, c = s[j] := ⟨_, rfl⟩
                        have hjst : j < st.size := by omega
                        have hgj : st[j] = cj := by rw [hcj]; exact st_get HST.out hjst hjs
                        have hdj : digB cj = true := by
                          refine cut_all digB s i cj ?_
                          rw [HEK.out, cut_more s (i := i) (k := j) (e := k) hij hjk (by rw [← HN.out]; omega), cut_more s (i := j) (k := j + 1) (e := k) (by omega) (by omega) (by rw [← HN.out]; omega), cut_next s (Nat.le_refl j) hjs, cut_self, hcj]
                          simp
                        have hd2 : 48 ≤ cj.toNat ∧ cj.toNat ≤ 57 := by unfold digB at hdj; simpa using hdj
                        obtain ⟨hd3, hd4⟩ := hd2
                        have HNV : Hid (val (cutL s i (j + 1)) = 10 * x + (cj.toNat - 48)) := by rw [cut_next s hij hjs, val_snoc, ← hcj, ← HJX.out]; exact rfl
                        have hnx : 10 * x + (cj.toNat - 48) ≤ 9223372036854775807 := by
                          have h1 := val_mono (cutL s i (j + 1)) (cutL s (j + 1) k)
                          rw [← cut_more s (i := i) (k := j + 1) (e := k) (by omega) (by omega) (by rw [← HN.out]; omega), HNV.out] at h1
                          exact Nat.le_trans h1 HVM.out
                        obtain ⟨dj, hdj2⟩ : ∃ v, v = cj.toNat := ⟨_, rfl⟩
                        have hgj2 : st[j].toNat = dj := by rw [hgj, hdj2]
                        rw [← hdj2] at hd3 hd4 hnx HNV
                        clear hcj hjs hgj hdj hdj2
                        go_wp2_with fail
                        go_roundw
                        case rel => exact ⟨trivial, j + 1, 10 * x + (dj - 48), congrArg (Value.int .i64) (by omega), by go_num, by omega, by omega, HNV.out.symm⟩
                        case measure => simp [intOf]; omega
                      · obtain rfl : j = k := by omega
                        go_wp2_with (refine wpList_store_row rfl 43 _ _ rfl w.heap.size #[.int .u8 2, .string ⟨#[]⟩, .int .i64 (x : Nat), .int .i64 (i : Nat), .int .i64 (j : Nat), .int .i64 0, .int .i64 0] rfl rfl 43 _ HY.out (by kernel_rfl) (by kernel_rfl) (by kernel_rfl) ?_)
                        refine bodyPost_ret (results_cell_row rfl _ _ w.heap.size 43 #[.int .u8 2, .string ⟨#[]⟩, .int .i64 (x : Nat), .int .i64 (i : Nat), .int .i64 (j : Nat), .int .i64 0, .int .i64 0] (0, 0) _ rfl (setRow_heap _ w.heap.size _ _ 43 _ HY.out) Try.underlying43 rfl (by kernel_rfl)) rfl ⟨by rw [HR.out, HJX.out]; rfl, below_setRow HBW.out (Nat.le_refl _) _⟩
                · by_cases hin : innB ch = true
                  · have HR : Hid (numT s i = .inl (k, 9)) := by
                      unfold numT; rw [numL_next HEK.out H48.out HVM.out (by rw [← HN.out]; exact hlt)]
                      have hsk : s[k]'(by rw [← HN.out]; exact hlt) = ch := by have h := HCK.out; rw [List.getElem?_eq_getElem (by rw [← HN.out]; exact hlt)] at h; injection h
                      rw [hsk, hin]; exact rfl
                    rw [HIN.out, HDF.out] at hin
                    cases hlo : lowB ch
                    · have h95 : cv = 95 := by rw [hlo] at hin; simpa using hin
                      have hb95 : ((cv : Int) == 95) = true := by rw [h95]; rfl
                      clear hin h95
                      go_wp2_with fail
                      refine HDI.out.mono ?_
                      rintro e w3 ⟨rfl, hw3⟩
                      rw [hw3, hdi]
                      clear hw3 w3
                      go_wp2_with fail
                      refine HLO.out.mono ?_
                      rintro e w3 ⟨rfl, hw3⟩
                      rw [hw3, hlo]
                      clear hw3 w3
                      go_wp2_with fail
                      refine (wrong_any (k) 9 wr).mono ?_
                      rintro e w2 ⟨rfl, hb2⟩
                      unfold told toldV
                      have HB2 := Lib.hid (HBW.out.trans (hb2.mono HBW.out.size))
                      have HY2 : Hid (Blk w2 w.heap.size 43 #[.int .u8 0, .string ⟨#[]⟩, .int .i64 0, .int .i64 0, .int .i64 0, .int .i64 0, .int .i64 0]) := (hb2.block _ hszr).trans HY.out
                      clear hb2
                      go_wp2_with (refine wpList_store_row rfl 43 _ _ rfl w.heap.size #[.int .u8 0, .string ⟨#[]⟩, .int .i64 0, .int .i64 0, .int .i64 0, .int .i64 (k : Nat), .int .i64 9] rfl rfl 43 _ HY2.out (by kernel_rfl) (by kernel_rfl) (by kernel_rfl) ?_)
                      refine bodyPost_ret (results_cell_row rfl _ _ w.heap.size 43 #[.int .u8 0, .string ⟨#[]⟩, .int .i64 0, .int .i64 0, .int .i64 0, .int .i64 (k : Nat), .int .i64 9] (0, 0) _ rfl (setRow_heap _ w.heap.size _ _ 43 _ HY2.out) Try.underlying43 rfl (by kernel_rfl)) rfl ⟨by rw [HR.out]; rfl, below_setRow HB2.out (Nat.le_refl _) _⟩
                    · clear hin
                      go_wp2_with fail
                      refine HDI.out.mono ?_
                      rintro e w3 ⟨rfl, hw3⟩
                      rw [hw3, hdi]
                      clear hw3 w3
                      go_wp2_with fail
                      refine HLO.out.mono ?_
                      rintro e w3 ⟨rfl, hw3⟩
                      rw [hw3, hlo]
                      clear hw3 w3
                      go_wp2_with fail
                      refine (wrong_any (k) 9 wr).mono ?_
                      rintro e w2 ⟨rfl, hb2⟩
                      unfold told toldV
                      have HB2 := Lib.hid (HBW.out.trans (hb2.mono HBW.out.size))
                      have HY2 : Hid (Blk w2 w.heap.size 43 #[.int .u8 0, .string ⟨#[]⟩, .int .i64 0, .int .i64 0, .int .i64 0, .int .i64 0, .int .i64 0]) := (hb2.block _ hszr).trans HY.out
                      clear hb2
                      go_wp2_with (refine wpList_store_row rfl 43 _ _ rfl w.heap.size #[.int .u8 0, .string ⟨#[]⟩, .int .i64 0, .int .i64 0, .int .i64 0, .int .i64 (k : Nat), .int .i64 9] rfl rfl 43 _ HY2.out (by kernel_rfl) (by kernel_rfl) (by kernel_rfl) ?_)
                      refine bodyPost_ret (results_cell_row rfl _ _ w.heap.size 43 #[.int .u8 0, .string ⟨#[]⟩, .int .i64 0, .int .i64 0, .int .i64 0, .int .i64 (k : Nat), .int .i64 9] (0, 0) _ rfl (setRow_heap _ w.heap.size _ _ 43 _ HY2.out) Try.underlying43 rfl (by kernel_rfl)) rfl ⟨by rw [HR.out]; rfl, below_setRow HB2.out (Nat.le_refl _) _⟩
                  · have hin : innB ch = false := by simpa using hin
                    have HR : Hid (numT s i = .inr (⟨2, [], val (cutL s i k), i⟩, k)) := by
                      unfold numT; rw [numL_next HEK.out H48.out HVM.out (by rw [← HN.out]; exact hlt)]
                      have hsk : s[k]'(by rw [← HN.out]; exact hlt) = ch := by have h := HCK.out; rw [List.getElem?_eq_getElem (by rw [← HN.out]; exact hlt)] at h; injection h
                      rw [hsk, hin]; exact rfl
                    rw [HIN.out, HDF.out] at hin
                    have hlo : lowB ch = false := by cases h : lowB ch <;> simp_all
                    have h95 : ¬ cv = 95 := by rw [hlo] at hin; simpa using hin
                    have hb95 : ((cv : Int) == 95) = false := by rw [beq_eq_false_iff_ne]; omega
                    clear hin h95
                    go_wp2_with fail
                    refine HDI.out.mono ?_
                    rintro e w3 ⟨rfl, hw3⟩
                    rw [hw3, hdi]
                    clear hw3 w3
                    go_wp2_with fail
                    refine HLO.out.mono ?_
                    rintro e w3 ⟨rfl, hw3⟩
                    rw [hw3, hlo]
                    clear hw3 w3
                    go_wp2_with fail
                    go_loopw [6, 7] (fun s6 s7 wx => wx = wr ∧ ∃ (j x : Nat), s6 = .int .i64 x ∧ s7 = .int .i64 j ∧ i ≤ j ∧ j ≤ k ∧ x = val (cutL s i j)) (fun _ s7 _ => k - (intOf s7).toNat)
                    case atStart => exact ⟨rfl, i, 0, rfl, rfl, Nat.le_refl _, by omega, by rw [cut_self]; rfl⟩
                    case round =>
                      obtain ⟨rfl, j, x, rfl, rfl, hij, hjk, hx⟩ := hrel
                      have HJX := Lib.hid hx
                      clear hx
                      by_cases hjlt : j < k
                      · have hjs : j < s.length := by rw [← HN.out]; omega
                        obtain ⟨cj, hcj⟩ : ∃ c, c = s[j] := ⟨_, rfl⟩
                        have hjst : j < st.size := by omega
                        have hgj : st[j] = cj := by rw [hcj]; exact st_get HST.out hjst hjs
                        have hdj : digB cj = true := by
                          refine cut_all digB s i cj ?_
                          rw [HEK.out, cut_more s (i := i) (k := j) (e := k) hij hjk (by rw [← HN.out]; omega), cut_more s (i := j) (k := j + 1) (e := k) (by omega) (by omega) (by rw [← HN.out]; omega), cut_next s (Nat.le_refl j) hjs, cut_self, hcj]
                          simp
                        have hd2 : 48 ≤ cj.toNat ∧ cj.toNat ≤ 57 := by unfold digB at hdj; simpa using hdj
                        obtain ⟨hd3, hd4⟩ := hd2
                        have HNV : Hid (val (cutL s i (j + 1)) = 10 * x + (cj.toNat - 48)) := by rw [cut_next s hij hjs, val_snoc, ← hcj, ← HJX.out]; exact rfl
                        have hnx : 10 * x + (cj.toNat - 48) ≤ 9223372036854775807 := by
                          have h1 := val_mono (cutL s i (j + 1)) (cutL s (j + 1) k)
                          rw [← cut_more s (i := i) (k := j + 1) (e := k) (by omega) (by omega) (by rw [← HN.out]; omega), HNV.out] at h1
                          exact Nat.le_trans h1 HVM.out
                        obtain ⟨dj, hdj2⟩ : ∃ v, v = cj.toNat := ⟨_, rfl⟩
                        have hgj2 : st[j].toNat = dj := by rw [hgj, hdj2]
                        rw [← hdj2] at hd3 hd4 hnx HNV
                        clear hcj hjs hgj hdj hdj2
                        go_wp2_with fail
                        go_roundw
                        case rel => exact ⟨trivial, j + 1, 10 * x + (dj - 48), congrArg (Value.int .i64) (by omega), by go_num, by omega, by omega, HNV.out.symm⟩
                        case measure => simp [intOf]; omega
                      · obtain rfl : j = k := by omega
                        go_wp2_with (refine wpList_store_row rfl 43 _ _ rfl w.heap.size #[.int .u8 2, .string ⟨#[]⟩, .int .i64 (x : Nat), .int .i64 (i : Nat), .int .i64 (j : Nat), .int .i64 0, .int .i64 0] rfl rfl 43 _ HY.out (by kernel_rfl) (by kernel_rfl) (by kernel_rfl) ?_)
                        refine bodyPost_ret (results_cell_row rfl _ _ w.heap.size 43 #[.int .u8 2, .string ⟨#[]⟩, .int .i64 (x : Nat), .int .i64 (i : Nat), .int .i64 (j : Nat), .int .i64 0, .int .i64 0] (0, 0) _ rfl (setRow_heap _ w.heap.size _ _ 43 _ HY.out) Try.underlying43 rfl (by kernel_rfl)) rfl ⟨by rw [HR.out, HJX.out]; rfl, below_setRow HBW.out (Nat.le_refl _) _⟩
              · have hb20 : ((k : Int) - (i : Int) == 19) = false := by rw [beq_eq_false_iff_ne]; omega
                by_cases hin : innB ch = true
                · have HR : Hid (numT s i = .inl (k, 9)) := by
                    unfold numT; rw [numL_next HEK.out H48.out HVM.out (by rw [← HN.out]; exact hlt)]
                    have hsk : s[k]'(by rw [← HN.out]; exact hlt) = ch := by have h := HCK.out; rw [List.getElem?_eq_getElem (by rw [← HN.out]; exact hlt)] at h; injection h
                    rw [hsk, hin]; exact rfl
                  rw [HIN.out, HDF.out] at hin
                  cases hlo : lowB ch
                  · have h95 : cv = 95 := by rw [hlo] at hin; simpa using hin
                    have hb95 : ((cv : Int) == 95) = true := by rw [h95]; rfl
                    clear hin h95
                    go_wp2_with fail
                    refine HDI.out.mono ?_
                    rintro e w3 ⟨rfl, hw3⟩
                    rw [hw3, hdi]
                    clear hw3 w3
                    go_wp2_with fail
                    refine HLO.out.mono ?_
                    rintro e w3 ⟨rfl, hw3⟩
                    rw [hw3, hlo]
                    clear hw3 w3
                    go_wp2_with fail
                    refine (wrong_any (k) 9 wr).mono ?_
                    rintro e w2 ⟨rfl, hb2⟩
                    unfold told toldV
                    have HB2 := Lib.hid (HBW.out.trans (hb2.mono HBW.out.size))
                    have HY2 : Hid (Blk w2 w.heap.size 43 #[.int .u8 0, .string ⟨#[]⟩, .int .i64 0, .int .i64 0, .int .i64 0, .int .i64 0, .int .i64 0]) := (hb2.block _ hszr).trans HY.out
                    clear hb2
                    go_wp2_with (refine wpList_store_row rfl 43 _ _ rfl w.heap.size #[.int .u8 0, .string ⟨#[]⟩, .int .i64 0, .int .i64 0, .int .i64 0, .int .i64 (k : Nat), .int .i64 9] rfl rfl 43 _ HY2.out (by kernel_rfl) (by kernel_rfl) (by kernel_rfl) ?_)
                    refine bodyPost_ret (results_cell_row rfl _ _ w.heap.size 43 #[.int .u8 0, .string ⟨#[]⟩, .int .i64 0, .int .i64 0, .int .i64 0, .int .i64 (k : Nat), .int .i64 9] (0, 0) _ rfl (setRow_heap _ w.heap.size _ _ 43 _ HY2.out) Try.underlying43 rfl (by kernel_rfl)) rfl ⟨by rw [HR.out]; rfl, below_setRow HB2.out (Nat.le_refl _) _⟩
                  · clear hin
                    go_wp2_with fail
                    refine HDI.out.mono ?_
                    rintro e w3 ⟨rfl, hw3⟩
                    rw [hw3, hdi]
                    clear hw3 w3
                    go_wp2_with fail
                    refine HLO.out.mono ?_
                    rintro e w3 ⟨rfl, hw3⟩
                    rw [hw3, hlo]
                    clear hw3 w3
                    go_wp2_with fail
                    refine (wrong_any (k) 9 wr).mono ?_
                    rintro e w2 ⟨rfl, hb2⟩
                    unfold told toldV
                    have HB2 := Lib.hid (HBW.out.trans (hb2.mono HBW.out.size))
                    have HY2 : Hid (Blk w2 w.heap.size 43 #[.int .u8 0, .string ⟨#[]⟩, .int .i64 0, .int .i64 0, .int .i64 0, .int .i64 0, .int .i64 0]) := (hb2.block _ hszr).trans HY.out
                    clear hb2
                    go_wp2_with (refine wpList_store_row rfl 43 _ _ rfl w.heap.size #[.int .u8 0, .string ⟨#[]⟩, .int .i64 0, .int .i64 0, .int .i64 0, .int .i64 (k : Nat), .int .i64 9] rfl rfl 43 _ HY2.out (by kernel_rfl) (by kernel_rfl) (by kernel_rfl) ?_)
                    refine bodyPost_ret (results_cell_row rfl _ _ w.heap.size 43 #[.int .u8 0, .string ⟨#[]⟩, .int .i64 0, .int .i64 0, .int .i64 0, .int .i64 (k : Nat), .int .i64 9] (0, 0) _ rfl (setRow_heap _ w.heap.size _ _ 43 _ HY2.out) Try.underlying43 rfl (by kernel_rfl)) rfl ⟨by rw [HR.out]; rfl, below_setRow HB2.out (Nat.le_refl _) _⟩
                · have hin : innB ch = false := by simpa using hin
                  have HR : Hid (numT s i = .inr (⟨2, [], val (cutL s i k), i⟩, k)) := by
                    unfold numT; rw [numL_next HEK.out H48.out HVM.out (by rw [← HN.out]; exact hlt)]
                    have hsk : s[k]'(by rw [← HN.out]; exact hlt) = ch := by have h := HCK.out; rw [List.getElem?_eq_getElem (by rw [← HN.out]; exact hlt)] at h; injection h
                    rw [hsk, hin]; exact rfl
                  rw [HIN.out, HDF.out] at hin
                  have hlo : lowB ch = false := by cases h : lowB ch <;> simp_all
                  have h95 : ¬ cv = 95 := by rw [hlo] at hin; simpa using hin
                  have hb95 : ((cv : Int) == 95) = false := by rw [beq_eq_false_iff_ne]; omega
                  clear hin h95
                  go_wp2_with fail
                  refine HDI.out.mono ?_
                  rintro e w3 ⟨rfl, hw3⟩
                  rw [hw3, hdi]
                  clear hw3 w3
                  go_wp2_with fail
                  refine HLO.out.mono ?_
                  rintro e w3 ⟨rfl, hw3⟩
                  rw [hw3, hlo]
                  clear hw3 w3
                  go_wp2_with fail
                  go_loopw [6, 7] (fun s6 s7 wx => wx = wr ∧ ∃ (j x : Nat), s6 = .int .i64 x ∧ s7 = .int .i64 j ∧ i ≤ j ∧ j ≤ k ∧ x = val (cutL s i j)) (fun _ s7 _ => k - (intOf s7).toNat)
                  case atStart => exact ⟨rfl, i, 0, rfl, rfl, Nat.le_refl _, by omega, by rw [cut_self]; rfl⟩
                  case round =>
                    obtain ⟨rfl, j, x, rfl, rfl, hij, hjk, hx⟩ := hrel
                    have HJX := Lib.hid hx
                    clear hx
                    by_cases hjlt : j < k
                    · have hjs : j < s.length := by rw [← HN.out]; omega
                      obtain ⟨cj, hcj⟩ : ∃ c, c = s[j] := ⟨_, rfl⟩
                      have hjst : j < st.size := by omega
                      have hgj : st[j] = cj := by rw [hcj]; exact st_get HST.out hjst hjs
                      have hdj : digB cj = true := by
                        refine cut_all digB s i cj ?_
                        rw [HEK.out, cut_more s (i := i) (k := j) (e := k) hij hjk (by rw [← HN.out]; omega), cut_more s (i := j) (k := j + 1) (e := k) (by omega) (by omega) (by rw [← HN.out]; omega), cut_next s (Nat.le_refl j) hjs, cut_self, hcj]
                        simp
                      have hd2 : 48 ≤ cj.toNat ∧ cj.toNat ≤ 57 := by unfold digB at hdj; simpa using hdj
                      obtain ⟨hd3, hd4⟩ := hd2
                      have HNV : Hid (val (cutL s i (j + 1)) = 10 * x + (cj.toNat - 48)) := by rw [cut_next s hij hjs, val_snoc, ← hcj, ← HJX.out]; exact rfl
                      have hnx : 10 * x + (cj.toNat - 48) ≤ 9223372036854775807 := by
                        have h1 := val_mono (cutL s i (j + 1)) (cutL s (j + 1) k)
                        rw [← cut_more s (i := i) (k := j + 1) (e := k) (by omega) (by omega) (by rw [← HN.out]; omega), HNV.out] at h1
                        exact Nat.le_trans h1 HVM.out
                      obtain ⟨dj, hdj2⟩ : ∃ v, v = cj.toNat := ⟨_, rfl⟩
                      have hgj2 : st[j].toNat = dj := by rw [hgj, hdj2]
                      rw [← hdj2] at hd3 hd4 hnx HNV
                      clear hcj hjs hgj hdj hdj2
                      go_wp2_with fail
                      go_roundw
                      case rel => exact ⟨trivial, j + 1, 10 * x + (dj - 48), congrArg (Value.int .i64) (by omega), by go_num, by omega, by omega, HNV.out.symm⟩
                      case measure => simp [intOf]; omega
                    · obtain rfl : j = k := by omega
                      go_wp2_with (refine wpList_store_row rfl 43 _ _ rfl w.heap.size #[.int .u8 2, .string ⟨#[]⟩, .int .i64 (x : Nat), .int .i64 (i : Nat), .int .i64 (j : Nat), .int .i64 0, .int .i64 0] rfl rfl 43 _ HY.out (by kernel_rfl) (by kernel_rfl) (by kernel_rfl) ?_)
                      refine bodyPost_ret (results_cell_row rfl _ _ w.heap.size 43 #[.int .u8 2, .string ⟨#[]⟩, .int .i64 (x : Nat), .int .i64 (i : Nat), .int .i64 (j : Nat), .int .i64 0, .int .i64 0] (0, 0) _ rfl (setRow_heap _ w.heap.size _ _ 43 _ HY.out) Try.underlying43 rfl (by kernel_rfl)) rfl ⟨by rw [HR.out, HJX.out]; rfl, below_setRow HBW.out (Nat.le_refl _) _⟩
      · have HS := Lib.hid (HST2.out hdi)
        have hkE3 : k + 1 ≤ E := by rw [← HS.out]; exact scan_ge _ _ _
        go_wp2_with fail
        refine HDI.out.mono ?_
        rintro e w3 ⟨rfl, hw3⟩
        rw [hw3, hdi]
        clear hw3 w3
        go_wp2_with fail
        go_roundw
        case rel => exact ⟨⟨k + 1, by go_num, by omega, hkE3, HS.out⟩, HX.out.2⟩
        case measure => simp [intOf]; omega
    · have hkE2 : k = E := by omega
      have hbw : Below w.heap.size w wr := by rw [HX.out.2]; exact (Below.refl _ _).alloc (Nat.le_refl _) _
      have HBW := Lib.hid hbw
      have hy : Blk wr w.heap.size 43 #[.int .u8 0, .string ⟨#[]⟩, .int .i64 0, .int .i64 0, .int .i64 0, .int .i64 0, .int .i64 0] := by rw [HX.out.2]; exact Blk.new w 43 _
      have HY := Lib.hid hy
      have hszr : w.heap.size < wr.heap.size := hy.lt
      have HEK : Hid (scan digB s i = k) := by rw [← HE.out]; exact hkE2.symm
      have hik2 : i + 1 ≤ k := by omega
      clear hbw hy hkE2
      by_cases hz : v0 = 48 ∧ i + 1 < k
      · obtain ⟨hz1, hz2⟩ := hz
        have HR : Hid (numT s i = .inl (i + 1, 9)) := by unfold numT; rw [numL_zero (HC48.out.2 hz1) (by rw [HEK.out]; exact hz2)]; exact rfl
        have hb0 : ((v0 : Int) == 48) = true := by rw [hz1]; rfl
        have hb1 : decide ((i : Int) + 1 < (k : Int)) = true := decide_eq_true (by omega)
        clear hz1
        go_wp2_with fail
        refine (wrong_any (i + 1) 9 wr).mono ?_
        rintro e w2 ⟨rfl, hb2⟩
        unfold told toldV
        have HB2 := Lib.hid (HBW.out.trans (hb2.mono HBW.out.size))
        have HY2 : Hid (Blk w2 w.heap.size 43 #[.int .u8 0, .string ⟨#[]⟩, .int .i64 0, .int .i64 0, .int .i64 0, .int .i64 0, .int .i64 0]) := (hb2.block _ hszr).trans HY.out
        clear hb2
        go_wp2_with (refine wpList_store_row rfl 43 _ _ rfl w.heap.size #[.int .u8 0, .string ⟨#[]⟩, .int .i64 0, .int .i64 0, .int .i64 0, .int .i64 (i + 1 : Nat), .int .i64 9] rfl rfl 43 _ HY2.out (by kernel_rfl) (by kernel_rfl) (by kernel_rfl) ?_)
        refine bodyPost_ret (results_cell_row rfl _ _ w.heap.size 43 #[.int .u8 0, .string ⟨#[]⟩, .int .i64 0, .int .i64 0, .int .i64 0, .int .i64 (i + 1 : Nat), .int .i64 9] (0, 0) _ rfl (setRow_heap _ w.heap.size _ _ 43 _ HY2.out) Try.underlying43 rfl (by kernel_rfl)) rfl ⟨by rw [HR.out]; rfl, below_setRow HB2.out (Nat.le_refl _) _⟩
      · have HZ : Hid (¬ (s[i]? = some 48 ∧ i + 1 < scan digB s i)) := fun h => hz ⟨HC48.out.1 h.1, by have := h.2; rw [HEK.out] at this; exact this⟩
        have H48 : Hid (i + 1 < k → s[i]? ≠ some 48) := fun h1 h2 => hz ⟨HC48.out.1 h2, h1⟩
        by_cases hlong : 9223372036854775807 < val (cutL s i k)
        · have HR : Hid (numT s i = .inl (i, 2)) := by unfold numT; rw [numL_long HZ.out (by rw [HEK.out]; exact hlong)]; exact rfl
          have hle : 19 ≤ k - i := by
            rcases Nat.lt_or_ge (k - i) 19 with h | h
            · have := big_short HEK.out h; omega
            · exact h
          have hb0 : ((v0 : Int) == 48) = false := by rw [beq_eq_false_iff_ne]; intro h; exact hz ⟨by omega, by omega⟩
          clear hz
          by_cases h19 : 19 < k - i
          · have hb19 : decide ((19 : Int) < (k : Int) - (i : Int)) = true := decide_eq_true (by omega)
            clear hlong
            go_wp2_with fail
            refine (wrong_any (i) 2 wr).mono ?_
            rintro e w2 ⟨rfl, hb2⟩
            unfold told toldV
            have HB2 := Lib.hid (HBW.out.trans (hb2.mono HBW.out.size))
            have HY2 : Hid (Blk w2 w.heap.size 43 #[.int .u8 0, .string ⟨#[]⟩, .int .i64 0, .int .i64 0, .int .i64 0, .int .i64 0, .int .i64 0]) := (hb2.block _ hszr).trans HY.out
            clear hb2
            go_wp2_with (refine wpList_store_row rfl 43 _ _ rfl w.heap.size #[.int .u8 0, .string ⟨#[]⟩, .int .i64 0, .int .i64 0, .int .i64 0, .int .i64 (i : Nat), .int .i64 2] rfl rfl 43 _ HY2.out (by kernel_rfl) (by kernel_rfl) (by kernel_rfl) ?_)
            refine bodyPost_ret (results_cell_row rfl _ _ w.heap.size 43 #[.int .u8 0, .string ⟨#[]⟩, .int .i64 0, .int .i64 0, .int .i64 0, .int .i64 (i : Nat), .int .i64 2] (0, 0) _ rfl (setRow_heap _ w.heap.size _ _ 43 _ HY2.out) Try.underlying43 rfl (by kernel_rfl)) rfl ⟨by rw [HR.out]; rfl, below_setRow HB2.out (Nat.le_refl _) _⟩
          · have HBG : Hid (bigB (cutL s i k) = true) := by rw [big_19 HEK.out (by omega)]; exact decide_eq_true hlong
            clear hlong
            have hbb : Op.bytesLess (cutL s i k) most19 = false ∧ (cutL s i k == most19) = false := by have h := HBG.out; unfold bigB at h; simpa [Bool.or_eq_false_iff] using h
            obtain ⟨hbl, hbe⟩ := hbb
            have hb19 : decide ((19 : Int) < (k : Int) - (i : Int)) = false := decide_eq_false (by omega)
            have hb20 : ((k : Int) - (i : Int) == 19) = true := by rw [beq_iff_eq]; omega
            have hsl := run_slice_string (P := Try.prog) (w := wr) 9 st .i64 .i64 (i : Nat) (k : Nat) Try.underlying9 (by omega) (by omega) (by omega)
            simp only [Int.toNat_natCast] at hsl
            have hex : st.extract i k = ⟨(cutL s i k).toArray⟩ := by rw [HST.out]; exact extract_cut s i k
            rw [hex] at hsl
            clear hex
            go_wp2_with fail
            refine (wrong_any (i) 2 wr).mono ?_
            rintro e w2 ⟨rfl, hb2⟩
            unfold told toldV
            have HB2 := Lib.hid (HBW.out.trans (hb2.mono HBW.out.size))
            have HY2 : Hid (Blk w2 w.heap.size 43 #[.int .u8 0, .string ⟨#[]⟩, .int .i64 0, .int .i64 0, .int .i64 0, .int .i64 0, .int .i64 0]) := (hb2.block _ hszr).trans HY.out
            clear hb2
            go_wp2_with (refine wpList_store_row rfl 43 _ _ rfl w.heap.size #[.int .u8 0, .string ⟨#[]⟩, .int .i64 0, .int .i64 0, .int .i64 0, .int .i64 (i : Nat), .int .i64 2] rfl rfl 43 _ HY2.out (by kernel_rfl) (by kernel_rfl) (by kernel_rfl) ?_)
            refine bodyPost_ret (results_cell_row rfl _ _ w.heap.size 43 #[.int .u8 0, .string ⟨#[]⟩, .int .i64 0, .int .i64 0, .int .i64 0, .int .i64 (i : Nat), .int .i64 2] (0, 0) _ rfl (setRow_heap _ w.heap.size _ _ 43 _ HY2.out) Try.underlying43 rfl (by kernel_rfl)) rfl ⟨by rw [HR.out]; rfl, below_setRow HB2.out (Nat.le_refl _) _⟩
        · have hvm : val (cutL s i k) ≤ 9223372036854775807 := by omega
          have HVM := Lib.hid hvm
          clear hvm
          have h19 : k - i ≤ 19 := by
            rcases Nat.lt_or_ge 19 (k - i) with h | h
            · have := big_long HEK.out (H48.out (by omega)) h; omega
            · exact h
          have HBG : Hid (k - i = 19 → bigB (cutL s i k) = false) := fun h => by rw [big_19 HEK.out h]; exact decide_eq_false hlong
          clear hlong
          have hb19 : decide ((19 : Int) < (k : Int) - (i : Int)) = false := decide_eq_false (by omega)
          by_cases h0 : v0 = 48
          · have hki : k = i + 1 := by rcases Nat.lt_or_ge (i + 1) k with h | h; exact absurd ⟨h0, h⟩ hz; omega
            have hb0 : ((v0 : Int) == 48) = true := by rw [h0]; rfl
            have hb1 : decide ((i : Int) + 1 < (k : Int)) = false := decide_eq_false (by omega)
            have hb20 : ((k : Int) - (i : Int) == 19) = false := by rw [beq_eq_false_iff_ne]; omega
            clear hz h0 hki
            have HR : Hid (numT s i = .inr (⟨2, [], val (cutL s i k), i⟩, k)) := by unfold numT; rw [numL_end HEK.out H48.out HVM.out (by rw [← HN.out]; omega)]; exact rfl
            go_wp2_with fail
            go_loopw [6, 7] (fun s6 s7 wx => wx = wr ∧ ∃ (j x : Nat), s6 = .int .i64 x ∧ s7 = .int .i64 j ∧ i ≤ j ∧ j ≤ k ∧ x = val (cutL s i j)) (fun _ s7 _ => k - (intOf s7).toNat)
            case atStart => exact ⟨rfl, i, 0, rfl, rfl, Nat.le_refl _, by omega, by rw [cut_self]; rfl⟩
            case round =>
              obtain ⟨rfl, j, x, rfl, rfl, hij, hjk, hx⟩ := hrel
              have HJX := Lib.hid hx
              clear hx
              by_cases hjlt : j < k
              · have hjs : j < s.length := by rw [← HN.out]; omega
                obtain ⟨cj, hcj⟩ : ∃ c, c = s[j] := ⟨_, rfl⟩
                have hjst : j < st.size := by omega
                have hgj : st[j] = cj := by rw [hcj]; exact st_get HST.out hjst hjs
                have hdj : digB cj = true := by
                  refine cut_all digB s i cj ?_
                  rw [HEK.out, cut_more s (i := i) (k := j) (e := k) hij hjk (by rw [← HN.out]; omega), cut_more s (i := j) (k := j + 1) (e := k) (by omega) (by omega) (by rw [← HN.out]; omega), cut_next s (Nat.le_refl j) hjs, cut_self, hcj]
                  simp
                have hd2 : 48 ≤ cj.toNat ∧ cj.toNat ≤ 57 := by unfold digB at hdj; simpa using hdj
                obtain ⟨hd3, hd4⟩ := hd2
                have HNV : Hid (val (cutL s i (j + 1)) = 10 * x + (cj.toNat - 48)) := by rw [cut_next s hij hjs, val_snoc, ← hcj, ← HJX.out]; exact rfl
                have hnx : 10 * x + (cj.toNat - 48) ≤ 9223372036854775807 := by
                  have h1 := val_mono (cutL s i (j + 1)) (cutL s (j + 1) k)
                  rw [← cut_more s (i := i) (k := j + 1) (e := k) (by omega) (by omega) (by rw [← HN.out]; omega), HNV.out] at h1
                  exact Nat.le_trans h1 HVM.out
                obtain ⟨dj, hdj2⟩ : ∃ v, v = cj.toNat := ⟨_, rfl⟩
                have hgj2 : st[j].toNat = dj := by rw [hgj, hdj2]
                rw [← hdj2] at hd3 hd4 hnx HNV
                clear hcj hjs hgj hdj hdj2
                go_wp2_with fail
                go_roundw
                case rel => exact ⟨trivial, j + 1, 10 * x + (dj - 48), congrArg (Value.int .i64) (by omega), by go_num, by omega, by omega, HNV.out.symm⟩
                case measure => simp [intOf]; omega
              · obtain rfl : j = k := by omega
                go_wp2_with (refine wpList_store_row rfl 43 _ _ rfl w.heap.size #[.int .u8 2, .string ⟨#[]⟩, .int .i64 (x : Nat), .int .i64 (i : Nat), .int .i64 (j : Nat), .int .i64 0, .int .i64 0] rfl rfl 43 _ HY.out (by kernel_rfl) (by kernel_rfl) (by kernel_rfl) ?_)
                refine bodyPost_ret (results_cell_row rfl _ _ w.heap.size 43 #[.int .u8 2, .string ⟨#[]⟩, .int .i64 (x : Nat), .int .i64 (i : Nat), .int .i64 (j : Nat), .int .i64 0, .int .i64 0] (0, 0) _ rfl (setRow_heap _ w.heap.size _ _ 43 _ HY.out) Try.underlying43 rfl (by kernel_rfl)) rfl ⟨by rw [HR.out, HJX.out]; rfl, below_setRow HBW.out (Nat.le_refl _) _⟩
          · have hb0 : ((v0 : Int) == 48) = false := by rw [beq_eq_false_iff_ne]; omega
            clear hz h0
            by_cases h20 : k - i = 19
            · have hbq : Op.bytesLess (cutL s i k) most19 = true ∨ (cutL s i k == most19) = true := by have h := HBG.out h20; unfold bigB at h; revert h; cases Op.bytesLess (cutL s i k) most19 <;> cases (cutL s i k == most19) <;> simp
              have HBG2 := Lib.hid hbq
              clear HBG hbq
              have hb20 : ((k : Int) - (i : Int) == 19) = true := by rw [beq_iff_eq]; omega
              have hsl := run_slice_string (P := Try.prog) (w := wr) 9 st .i64 .i64 (i : Nat) (k : Nat) Try.underlying9 (by omega) (by omega) (by omega)
              simp only [Int.toNat_natCast] at hsl
              have hex : st.extract i k = ⟨(cutL s i k).toArray⟩ := by rw [HST.out]; exact extract_cut s i k
              rw [hex] at hsl
              clear hex
              clear h20
              rcases HBG2.out with hbl | hbl
              · have HR : Hid (numT s i = .inr (⟨2, [], val (cutL s i k), i⟩, k)) := by unfold numT; rw [numL_end HEK.out H48.out HVM.out (by rw [← HN.out]; omega)]; exact rfl
                go_wp2_with fail
                go_loopw [6, 7] (fun s6 s7 wx => wx = wr ∧ ∃ (j x : Nat), s6 = .int .i64 x ∧ s7 = .int .i64 j ∧ i ≤ j ∧ j ≤ k ∧ x = val (cutL s i j)) (fun _ s7 _ => k - (intOf s7).toNat)
                case atStart => exact ⟨rfl, i, 0, rfl, rfl, Nat.le_refl _, by omega, by rw [cut_self]; rfl⟩
                case round =>
                  obtain ⟨rfl, j, x, rfl, rfl, hij, hjk, hx⟩ := hrel
                  have HJX := Lib.hid hx
                  clear hx
                  by_cases hjlt : j < k
                  · have hjs : j < s.length := by rw [← HN.out]; omega
                    obtain ⟨cj, hcj⟩ : ∃ c, c = s[j] := ⟨_, rfl⟩
                    have hjst : j < st.size := by omega
                    have hgj : st[j] = cj := by rw [hcj]; exact st_get HST.out hjst hjs
                    have hdj : digB cj = true := by
                      refine cut_all digB s i cj ?_
                      rw [HEK.out, cut_more s (i := i) (k := j) (e := k) hij hjk (by rw [← HN.out]; omega), cut_more s (i := j) (k := j + 1) (e := k) (by omega) (by omega) (by rw [← HN.out]; omega), cut_next s (Nat.le_refl j) hjs, cut_self, hcj]
                      simp
                    have hd2 : 48 ≤ cj.toNat ∧ cj.toNat ≤ 57 := by unfold digB at hdj; simpa using hdj
                    obtain ⟨hd3, hd4⟩ := hd2
                    have HNV : Hid (val (cutL s i (j + 1)) = 10 * x + (cj.toNat - 48)) := by rw [cut_next s hij hjs, val_snoc, ← hcj, ← HJX.out]; exact rfl
                    have hnx : 10 * x + (cj.toNat - 48) ≤ 9223372036854775807 := by
                      have h1 := val_mono (cutL s i (j + 1)) (cutL s (j + 1) k)
                      rw [← cut_more s (i := i) (k := j + 1) (e := k) (by omega) (by omega) (by rw [← HN.out]; omega), HNV.out] at h1
                      exact Nat.le_trans h1 HVM.out
                    obtain ⟨dj, hdj2⟩ : ∃ v, v = cj.toNat := ⟨_, rfl⟩
                    have hgj2 : st[j].toNat = dj := by rw [hgj, hdj2]
                    rw [← hdj2] at hd3 hd4 hnx HNV
                    clear hcj hjs hgj hdj hdj2
                    go_wp2_with fail
                    go_roundw
                    case rel => exact ⟨trivial, j + 1, 10 * x + (dj - 48), congrArg (Value.int .i64) (by omega), by go_num, by omega, by omega, HNV.out.symm⟩
                    case measure => simp [intOf]; omega
                  · obtain rfl : j = k := by omega
                    go_wp2_with (refine wpList_store_row rfl 43 _ _ rfl w.heap.size #[.int .u8 2, .string ⟨#[]⟩, .int .i64 (x : Nat), .int .i64 (i : Nat), .int .i64 (j : Nat), .int .i64 0, .int .i64 0] rfl rfl 43 _ HY.out (by kernel_rfl) (by kernel_rfl) (by kernel_rfl) ?_)
                    refine bodyPost_ret (results_cell_row rfl _ _ w.heap.size 43 #[.int .u8 2, .string ⟨#[]⟩, .int .i64 (x : Nat), .int .i64 (i : Nat), .int .i64 (j : Nat), .int .i64 0, .int .i64 0] (0, 0) _ rfl (setRow_heap _ w.heap.size _ _ 43 _ HY.out) Try.underlying43 rfl (by kernel_rfl)) rfl ⟨by rw [HR.out, HJX.out]; rfl, below_setRow HBW.out (Nat.le_refl _) _⟩
              · have HR : Hid (numT s i = .inr (⟨2, [], val (cutL s i k), i⟩, k)) := by unfold numT; rw [numL_end HEK.out H48.out HVM.out (by rw [← HN.out]; omega)]; exact rfl
                go_wp2_with fail
                go_loopw [6, 7] (fun s6 s7 wx => wx = wr ∧ ∃ (j x : Nat), s6 = .int .i64 x ∧ s7 = .int .i64 j ∧ i ≤ j ∧ j ≤ k ∧ x = val (cutL s i j)) (fun _ s7 _ => k - (intOf s7).toNat)
                case atStart => exact ⟨rfl, i, 0, rfl, rfl, Nat.le_refl _, by omega, by rw [cut_self]; rfl⟩
                case round =>
                  obtain ⟨rfl, j, x, rfl, rfl, hij, hjk, hx⟩ := hrel
                  have HJX := Lib.hid hx
                  clear hx
                  by_cases hjlt : j < k
                  · have hjs : j < s.length := by rw [← HN.out]; omega
                    obtain ⟨cj, hcj⟩ : ∃ c, c = s[j] := ⟨_, rfl⟩
                    have hjst : j < st.size := by omega
                    have hgj : st[j] = cj := by rw [hcj]; exact st_get HST.out hjst hjs
                    have hdj : digB cj = true := by
                      refine cut_all digB s i cj ?_
                      rw [HEK.out, cut_more s (i := i) (k := j) (e := k) hij hjk (by rw [← HN.out]; omega), cut_more s (i := j) (k := j + 1) (e := k) (by omega) (by omega) (by rw [← HN.out]; omega), cut_next s (Nat.le_refl j) hjs, cut_self, hcj]
                      simp
                    have hd2 : 48 ≤ cj.toNat ∧ cj.toNat ≤ 57 := by unfold digB at hdj; simpa using hdj
                    obtain ⟨hd3, hd4⟩ := hd2
                    have HNV : Hid (val (cutL s i (j + 1)) = 10 * x + (cj.toNat - 48)) := by rw [cut_next s hij hjs, val_snoc, ← hcj, ← HJX.out]; exact rfl
                    have hnx : 10 * x + (cj.toNat - 48) ≤ 9223372036854775807 := by
                      have h1 := val_mono (cutL s i (j + 1)) (cutL s (j + 1) k)
                      rw [← cut_more s (i := i) (k := j + 1) (e := k) (by omega) (by omega) (by rw [← HN.out]; omega), HNV.out] at h1
                      exact Nat.le_trans h1 HVM.out
                    obtain ⟨dj, hdj2⟩ : ∃ v, v = cj.toNat := ⟨_, rfl⟩
                    have hgj2 : st[j].toNat = dj := by rw [hgj, hdj2]
                    rw [← hdj2] at hd3 hd4 hnx HNV
                    clear hcj hjs hgj hdj hdj2
                    go_wp2_with fail
                    go_roundw
                    case rel => exact ⟨trivial, j + 1, 10 * x + (dj - 48), congrArg (Value.int .i64) (by omega), by go_num, by omega, by omega, HNV.out.symm⟩
                    case measure => simp [intOf]; omega
                  · obtain rfl : j = k := by omega
                    go_wp2_with (refine wpList_store_row rfl 43 _ _ rfl w.heap.size #[.int .u8 2, .string ⟨#[]⟩, .int .i64 (x : Nat), .int .i64 (i : Nat), .int .i64 (j : Nat), .int .i64 0, .int .i64 0] rfl rfl 43 _ HY.out (by kernel_rfl) (by kernel_rfl) (by kernel_rfl) ?_)
                    refine bodyPost_ret (results_cell_row rfl _ _ w.heap.size 43 #[.int .u8 2, .string ⟨#[]⟩, .int .i64 (x : Nat), .int .i64 (i : Nat), .int .i64 (j : Nat), .int .i64 0, .int .i64 0] (0, 0) _ rfl (setRow_heap _ w.heap.size _ _ 43 _ HY.out) Try.underlying43 rfl (by kernel_rfl)) rfl ⟨by rw [HR.out, HJX.out]; rfl, below_setRow HBW.out (Nat.le_refl _) _⟩
            · have hb20 : ((k : Int) - (i : Int) == 19) = false := by rw [beq_eq_false_iff_ne]; omega
              have HR : Hid (numT s i = .inr (⟨2, [], val (cutL s i k), i⟩, k)) := by unfold numT; rw [numL_end HEK.out H48.out HVM.out (by rw [← HN.out]; omega)]; exact rfl
              go_wp2_with fail
              go_loopw [6, 7] (fun s6 s7 wx => wx = wr ∧ ∃ (j x : Nat), s6 = .int .i64 x ∧ s7 = .int .i64 j ∧ i ≤ j ∧ j ≤ k ∧ x = val (cutL s i j)) (fun _ s7 _ => k - (intOf s7).toNat)
              case atStart => exact ⟨rfl, i, 0, rfl, rfl, Nat.le_refl _, by omega, by rw [cut_self]; rfl⟩
              case round =>
                obtain ⟨rfl, j, x, rfl, rfl, hij, hjk, hx⟩ := hrel
                have HJX := Lib.hid hx
                clear hx
                by_cases hjlt : j < k
                · have hjs : j < s.length := by rw [← HN.out]; omega
                  obtain ⟨cj, hcj⟩ : ∃ c, c = s[j] := ⟨_, rfl⟩
                  have hjst : j < st.size := by omega
                  have hgj : st[j] = cj := by rw [hcj]; exact st_get HST.out hjst hjs
                  have hdj : digB cj = true := by
                    refine cut_all digB s i cj ?_
                    rw [HEK.out, cut_more s (i := i) (k := j) (e := k) hij hjk (by rw [← HN.out]; omega), cut_more s (i := j) (k := j + 1) (e := k) (by omega) (by omega) (by rw [← HN.out]; omega), cut_next s (Nat.le_refl j) hjs, cut_self, hcj]
                    simp
                  have hd2 : 48 ≤ cj.toNat ∧ cj.toNat ≤ 57 := by unfold digB at hdj; simpa using hdj
                  obtain ⟨hd3, hd4⟩ := hd2
                  have HNV : Hid (val (cutL s i (j + 1)) = 10 * x + (cj.toNat - 48)) := by rw [cut_next s hij hjs, val_snoc, ← hcj, ← HJX.out]; exact rfl
                  have hnx : 10 * x + (cj.toNat - 48) ≤ 9223372036854775807 := by
                    have h1 := val_mono (cutL s i (j + 1)) (cutL s (j + 1) k)
                    rw [← cut_more s (i := i) (k := j + 1) (e := k) (by omega) (by omega) (by rw [← HN.out]; omega), HNV.out] at h1
                    exact Nat.le_trans h1 HVM.out
                  obtain ⟨dj, hdj2⟩ : ∃ v, v = cj.toNat := ⟨_, rfl⟩
                  have hgj2 : st[j].toNat = dj := by rw [hgj, hdj2]
                  rw [← hdj2] at hd3 hd4 hnx HNV
                  clear hcj hjs hgj hdj hdj2
                  go_wp2_with fail
                  go_roundw
                  case rel => exact ⟨trivial, j + 1, 10 * x + (dj - 48), congrArg (Value.int .i64) (by omega), by go_num, by omega, by omega, HNV.out.symm⟩
                  case measure => simp [intOf]; omega
                · obtain rfl : j = k := by omega
                  go_wp2_with (refine wpList_store_row rfl 43 _ _ rfl w.heap.size #[.int .u8 2, .string ⟨#[]⟩, .int .i64 (x : Nat), .int .i64 (i : Nat), .int .i64 (j : Nat), .int .i64 0, .int .i64 0] rfl rfl 43 _ HY.out (by kernel_rfl) (by kernel_rfl) (by kernel_rfl) ?_)
                  refine bodyPost_ret (results_cell_row rfl _ _ w.heap.size 43 #[.int .u8 2, .string ⟨#[]⟩, .int .i64 (x : Nat), .int .i64 (i : Nat), .int .i64 (j : Nat), .int .i64 0, .int .i64 0] (0, 0) _ rfl (setRow_heap _ w.heap.size _ _ 43 _ HY.out) Try.underlying43 rfl (by kernel_rfl)) rfl ⟨by rw [HR.out, HJX.out]; rfl, below_setRow HBW.out (Nat.le_refl _) _⟩
end Go.Proofs.Ytlfkiaphmifelaa
