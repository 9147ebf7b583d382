/- Contracts of token.letter, digit, inner, number. -/
import Derived.Test.YtlfkiaphmifelaaDoorChecked
import Derived.Test.YtlfkiaphmifelaaDoorSpc
namespace Go.Proofs.YtlfkiaphmifelaaDoor
open Go.RowKit

theorem letter_any (c : UInt8) (w : World) : Calls Tryd.prog 21 #[.int .u8 (c.toNat : Nat)] w fun e w' => e = .returned (.bool (lowB c)) ∧ w' = w := by
  have HC : Hid (lowB c = (decide (97 ≤ c.toNat) && decide (c.toNat ≤ 122))) := rfl
  have h1 : c.toNat < 256 := UInt8.toNat_lt _
  generalize c.toNat = x at *
  by_cases ha : 97 ≤ x
  · by_cases hb : x ≤ 122
    · go_enter Tryd.func21, Tryd.ntmps21
      go_wp2_with fail
      go_ret
      exact ⟨by rw [HC.out]; simp [ha, hb]; omega, rfl⟩
    · go_enter Tryd.func21, Tryd.ntmps21
      go_wp2_with fail
      go_ret
      exact ⟨by rw [HC.out]; simp [ha, hb]; omega, rfl⟩
  · go_enter Tryd.func21, Tryd.ntmps21
    go_wp2_with fail
    go_ret
    exact ⟨by rw [HC.out]; simp [ha], rfl⟩
theorem digit_any (c : UInt8) (w : World) : Calls Tryd.prog 23 #[.int .u8 (c.toNat : Nat)] w fun e w' => e = .returned (.bool (digB c)) ∧ w' = w := by
  have HC : Hid (digB c = (decide (48 ≤ c.toNat) && decide (c.toNat ≤ 57))) := rfl
  have h1 : c.toNat < 256 := UInt8.toNat_lt _
  generalize c.toNat = x at *
  by_cases ha : 48 ≤ x
  · by_cases hb : x ≤ 57
    · go_enter Tryd.func23, Tryd.ntmps23
      go_wp2_with fail
      go_ret
      exact ⟨by rw [HC.out]; simp [ha, hb]; omega, rfl⟩
    · go_enter Tryd.func23, Tryd.ntmps23
      go_wp2_with fail
      go_ret
      exact ⟨by rw [HC.out]; simp [ha, hb]; omega, rfl⟩
  · go_enter Tryd.func23, Tryd.ntmps23
    go_wp2_with fail
    go_ret
    exact ⟨by rw [HC.out]; simp [ha], rfl⟩
theorem beq_decide (x : Nat) : ((x : Int) == 95) = decide (x = 95) := by
  rw [Bool.eq_iff_iff]; simp; omega
theorem inner_any (c : UInt8) (w : World) : Calls Tryd.prog 22 #[.int .u8 (c.toNat : Nat)] w fun e w' => e = .returned (.bool (innB c)) ∧ w' = w := by
  have HL := Lib.hid (letter_any c w)
  have HD := Lib.hid (digit_any c w)
  have HC : Hid (innB c = (lowB c || digB c || decide (c.toNat = 95))) := rfl
  have h1 : c.toNat < 256 := UInt8.toNat_lt _
  generalize c.toNat = x at *
  generalize lowB c = p at *
  generalize digB c = q at *
  go_enter Tryd.func22, Tryd.ntmps22
  go_wp2_with fail
  refine HL.out.mono ?_
  rintro e w2 ⟨rfl, rfl⟩
  cases p
  · go_wp2_with fail
    refine HD.out.mono ?_
    rintro e w2 ⟨rfl, rfl⟩
    cases q
    · go_wp2_with fail
      go_ret
      refine ⟨by rw [HC.out, beq_decide x]; simp, rfl⟩
    · go_wp2_with fail
      go_ret
      exact ⟨by rw [HC.out]; rfl, rfl⟩
  · go_wp2_with fail
    go_ret
    exact ⟨by rw [HC.out]; rfl, rfl⟩

theorem st_get {st : ByteArray} {s : List UInt8} (hst : st = ⟨s.toArray⟩) {k : Nat} (h : k < st.size) (h2 : k < s.length) : st[k] = s[k] := by
  subst hst; rfl

set_option maxHeartbeats 4000000 in
theorem number_any (s : List UInt8) (i : Nat) (hs : s.length ≤ 100000) (hi : i ≤ s.length) (w : World) :
    Calls Tryd.prog 24 #[.string ⟨s.toArray⟩, .int .i64 (i : Nat)] w fun e w' => e = .returned (.tuple #[.int .i64 (numL s i).1, .int .i64 (numL s i).2.1, .int .i64 (numL s i).2.2.1, .int .i64 (numL s i).2.2.2]) ∧ w' = w := by
  obtain ⟨st, hst⟩ : ∃ st : ByteArray, st = ⟨s.toArray⟩ := ⟨_, rfl⟩
  have hsz : st.size = s.length := by rw [hst]; rfl
  obtain ⟨n, hn⟩ : ∃ n, n = s.length := ⟨_, rfl⟩
  obtain ⟨E, hE⟩ : ∃ E, E = scan digB s i := ⟨_, rfl⟩
  have hEn : E ≤ n := by rw [hE, hn]; exact scan_le _ _ hi
  rw [← hst]
  rw [← hn] at hsz hs hi
  have HST := Lib.hid hst
  have HN := Lib.hid hn
  have HE := Lib.hid hE
  have HEN := Lib.hid hEn
  clear hst hn hE hEn
  go_enter Tryd.func24, Tryd.ntmps24
  go_wp2_with fail
  go_loopw [8, 9] (fun s8 s9 wr => wr = w ∧ ∃ k x : Nat, s8 = .int .u64 x ∧ s9 = .int .i64 k ∧ i ≤ k ∧ k ≤ n ∧ x = val (cutL s i k) ∧ x ≤ 9223372036854775807 ∧ scan digB s k = E ∧ (i + 1 < k → s[i]? ≠ some 48)) (fun _ s9 _ => n - (intOf s9).toNat)
  case atStart => exact ⟨rfl, i, 0, rfl, rfl, Nat.le_refl _, hi, by rw [cut_self]; rfl, by omega, HE.out.symm, by omega⟩
  case round =>
    obtain ⟨rfl, k, x, rfl, rfl, hik, hkn, hx, hxm, hsc, h48⟩ := hrel
    have HX := Lib.hid (And.intro hx (And.intro hsc h48))
    clear hx hsc h48
    by_cases hlt : k < n
    · have hks : k < s.length := by rw [← HN.out]; exact hlt
      obtain ⟨ch, hch⟩ : ∃ c, c = s[k] := ⟨_, rfl⟩
      have hkst : k < st.size := by omega
      have hg : st[k] = ch := by rw [hch]; exact st_get HST.out hkst hks
      have HCH : Hid (s[k]? = some ch) := by rw [hch]; exact List.getElem?_eq_getElem hks
      have HSP : Hid (digB ch = false → E = k) := fun hd => by rw [← HX.out.2.1]; exact scan_stop _ _ hks (by rw [← hch]; exact hd)
      have HST2 : Hid (digB ch = true → scan digB s (k + 1) = E) := fun hd => by rw [← HX.out.2.1]; exact (scan_step _ _ hks (by rw [← hch]; exact hd)).symm
      have HNX : Hid (E = k → numL s i = if innB ch then (0, 0, k, 9) else (x, k, 0, 0)) := fun he => by
        have h := numL_next (HE.out.symm.trans he) HX.out.2.2 (by rw [← HX.out.1]; exact hxm) hks
        rw [h, hch, HX.out.1]
      clear hch hks
      go_wp2_with fail
      refine (digit_any ch wr).mono ?_
      rintro e w2 ⟨rfl, hw2⟩
      rw [hw2]
      clear hw2 w2
      cases hd : digB ch
      · have HR := Lib.hid (HNX.out (HSP.out hd))
        clear hd
        go_wp2_with fail
        refine (inner_any ch wr).mono ?_
        rintro e w2 ⟨rfl, hw2⟩
        rw [hw2]
        clear hw2 w2
        cases hin : innB ch
        · have HR2 : Hid (numL s i = (x, k, 0, 0)) := by rw [HR.out, hin]; rfl
          clear hin
          go_wp2_with fail
          (try simp only [Exit.inBlock, Exit.then]); refine bodyPost_ret (results_tmp4 rfl _ _ _) rfl ?_
          exact ⟨by rw [HR2.out]; rfl, rfl⟩
        · have HR2 : Hid (numL s i = (0, 0, k, 9)) := by rw [HR.out, hin]; rfl
          clear hin
          go_wp2_with fail
          (try simp only [Exit.inBlock, Exit.then]); refine bodyPost_ret (results_tmp4 rfl _ _ _) rfl ?_
          exact ⟨by rw [HR2.out]; rfl, rfl⟩
      · have hd2 : 48 ≤ ch.toNat ∧ ch.toNat ≤ 57 := by unfold digB at hd; simpa using hd
        obtain ⟨hd3, hd4⟩ := hd2
        have HS := Lib.hid (HST2.out hd)
        clear hd HSP HST2 HNX
        obtain ⟨cv, hcv⟩ : ∃ v, v = ch.toNat := ⟨_, rfl⟩
        have HCV := Lib.hid hcv
        rw [← hcv] at hd3 hd4
        have hg2 : st[k].toNat = cv := by rw [hg, hcv]
        clear hcv hg
        have HVN : Hid (val (cutL s i (k + 1)) = 10 * x + (cv - 48)) := by
          have hks : k < s.length := by rw [← HN.out]; exact hlt
          rw [cut_next s hik hks, val_snoc, ← HX.out.1]
          have h := HCH.out
          rw [List.getElem?_eq_getElem hks] at h
          injection h with h
          rw [h, HCV.out]
          exact rfl
        have hkE : k + 1 ≤ E := by rw [← HS.out]; exact scan_ge _ _ _
        have HVM : Hid (10 * x + (cv - 48) ≤ val (cutL s i E)) := by
          rw [← HVN.out, cut_more s (i := i) (k := k + 1) (e := E) (by omega) hkE (by rw [← HN.out]; exact HEN.out)]
          exact val_mono _ _
        by_cases hk1 : k = i + 1
        · subst hk1
          have his : i < s.length := by rw [← HN.out]; omega
          have hist : i < st.size := by omega
          obtain ⟨ci, hci⟩ : ∃ c, c = s[i].toNat := ⟨_, rfl⟩
          have hgi : st[i].toNat = ci := by rw [hci, st_get HST.out hist his]
          have HCI : Hid (s[i]? = some 48 ↔ ci = 48) := by
            rw [List.getElem?_eq_getElem his, hci]
            constructor
            · intro h; injection h with h; rw [h]; rfl
            · intro h; exact congrArg some (UInt8.toNat_inj.1 (by rw [h]; rfl))
          clear hci his
          by_cases h48 : ci = 48
          · have HR := Lib.hid (numL_zero (HCI.out.2 h48) (by rw [← HE.out]; omega))
            clear hkE
            have hb48 : ((ci : Int) == 48) = true := by rw [h48]; rfl
            clear h48
            go_wp2_with fail
            (try simp only [Exit.inBlock, Exit.then]); refine bodyPost_ret (results_tmp4 rfl _ _ _) rfl ?_
            exact ⟨by rw [HR.out]; rfl, rfl⟩
          · have H48 : Hid (s[i]? ≠ some 48) := fun h => h48 (HCI.out.1 h)
            have hb48 : ((ci : Int) == 48) = false := by rw [beq_eq_false_iff_ne]; omega
            clear h48 hkE
            have HNL : Hid (9223372036854775807 < 10 * x + (cv - 48) → numL s i = (0, 0, i, 2)) := fun hv => numL_long (fun hh => H48.out hh.1) (by rw [← HE.out]; exact Nat.lt_of_lt_of_le hv HVM.out)
            obtain ⟨d, hdd⟩ : ∃ d, d = cv - 48 := ⟨_, rfl⟩
            have HDD := Lib.hid hdd
            have hdz : (cv : Int) - 48 = (d : Int) := by omega
            have hd9 : d ≤ 9 := by omega
            rw [← hdd] at HNL
            clear hdd
            by_cases hov : (9223372036854775807 - d) / 10 < x
            · have HR := Lib.hid (HNL.out (by omega))
              have hov2 : decide ((9223372036854775807 - (d : Int)) / 10 < (x : Int)) = true := decide_eq_true (by omega)
              clear hov
              go_wp2_with fail
              (try simp only [Exit.inBlock, Exit.then]); refine bodyPost_ret (results_tmp4 rfl _ _ _) rfl ?_
              exact ⟨by rw [HR.out]; rfl, rfl⟩
            · have hov2 : decide ((9223372036854775807 - (d : Int)) / 10 < (x : Int)) = false := decide_eq_false (by omega)
              have hnx : 10 * x + d ≤ 9223372036854775807 := by omega
              clear hov
              go_wp2_with fail
              go_roundw
              case rel => exact ⟨trivial, (i + 1) + 1, 10 * x + d, congrArg (Value.int .u64) (by omega), by go_num, by omega, by omega, by rw [HVN.out, HDD.out], hnx, HS.out, fun _ => H48.out⟩
              case measure => simp [intOf]; omega
        · by_cases hki : k = i
          · subst hki
            have hx0 : x = 0 := by rw [HX.out.1, cut_self]; rfl
            clear hkE
            subst hx0
            have hov2 : decide ((9223372036854775807 - ((cv : Int) - 48)) / 10 < ((0 : Nat) : Int)) = false := decide_eq_false (by omega)
            go_wp2_with fail
            go_roundw
            case rel => exact ⟨trivial, k + 1, cv - 48, congrArg (Value.int .u64) (by omega), by go_num, by omega, by omega, by rw [HVN.out]; omega, by omega, HS.out, fun h => absurd h (by omega)⟩
            case measure => simp [intOf]; omega
          · have H48 : Hid (s[i]? ≠ some 48) := HX.out.2.2 (by omega)
            clear hkE
            have HNL : Hid (9223372036854775807 < 10 * x + (cv - 48) → numL s i = (0, 0, i, 2)) := fun hv => numL_long (fun hh => H48.out hh.1) (by rw [← HE.out]; exact Nat.lt_of_lt_of_le hv HVM.out)
            obtain ⟨d, hdd⟩ : ∃ d, d = cv - 48 := ⟨_, rfl⟩
            have HDD := Lib.hid hdd
            have hdz : (cv : Int) - 48 = (d : Int) := by omega
            have hd9 : d ≤ 9 := by omega
            rw [← hdd] at HNL
            clear hdd
            by_cases hov : (9223372036854775807 - d) / 10 < x
            · have HR := Lib.hid (HNL.out (by omega))
              have hov2 : decide ((9223372036854775807 - (d : Int)) / 10 < (x : Int)) = true := decide_eq_true (by omega)
              clear hov
              go_wp2_with fail
              (try simp only [Exit.inBlock, Exit.then]); refine bodyPost_ret (results_tmp4 rfl _ _ _) rfl ?_
              exact ⟨by rw [HR.out]; rfl, rfl⟩
            · have hov2 : decide ((9223372036854775807 - (d : Int)) / 10 < (x : Int)) = false := decide_eq_false (by omega)
              have hnx : 10 * x + d ≤ 9223372036854775807 := by omega
              clear hov
              go_wp2_with fail
              go_roundw
              case rel => exact ⟨trivial, k + 1, 10 * x + d, congrArg (Value.int .u64) (by omega), by go_num, by omega, by omega, by rw [HVN.out, HDD.out], hnx, HS.out, fun _ => H48.out⟩
              case measure => simp [intOf]; omega
    · have hkn2 : k = n := by omega
      have HR := Lib.hid (numL_end (s := s) (i := i) (k := k) (by rw [← HE.out, ← HX.out.2.1]; exact scan_end _ _ (by rw [← HN.out]; omega)) HX.out.2.2 (by rw [← HX.out.1]; exact hxm) (by rw [← HN.out]; omega))
      go_wp2_with fail
      (try simp only [Exit.inBlock, Exit.then]); refine bodyPost_ret (results_tmp4 rfl _ _ _) rfl ?_
      exact ⟨by rw [HR.out, ← HX.out.1]; rfl, rfl⟩
end Go.Proofs.YtlfkiaphmifelaaDoor
