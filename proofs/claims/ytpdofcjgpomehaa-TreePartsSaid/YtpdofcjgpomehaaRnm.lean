/- Contract of the document's Name. -/
import Derived.Test.YtpdofcjgpomehaaRsm
namespace Go.Proofs.Ytpdofcjgpomehaa
open Go.RowKit

theorem fst_get {s : List UInt8} (h : 0 < s.length) : fstC s = decide (97 ≤ (s[0]'h).toNat ∧ (s[0]'h).toNat ≤ 122) := by
  cases s with
  | nil => simp at h
  | cons c tl => rfl
set_option maxHeartbeats 8000000 in
theorem refName_list (s : List UInt8) (w : World) (hs : s.length ≤ 9223372036854775807) : Calls Try.prog 48 #[.string ⟨s.toArray⟩] w fun e w' => e = .returned (.bool (nameB s)) ∧ w' = w := by
  obtain ⟨st, hst⟩ : ∃ st : ByteArray, st = ⟨s.toArray⟩ := ⟨_, rfl⟩
  have hsz : st.size = s.length := by rw [hst]; rfl
  obtain ⟨n, hn⟩ : ∃ n, n = s.length := ⟨_, rfl⟩
  rw [← hst]
  rw [← hn] at hsz hs
  have HST := Lib.hid hst
  have HN := Lib.hid hn
  have HB : Hid (nameB s = (decide (s.length ≤ 24) && fstC s && s.all inC)) := rfl
  obtain ⟨R, hR⟩ : ∃ R, R = nameB s := ⟨_, rfl⟩
  rw [← hR] at HB ⊢
  clear hst hn hR
  by_cases h0 : n < 1
  · have d0 : decide ((n : Int) < 1) = true := decide_eq_true (by omega)
    have HR := Lib.hid (show R = false from by
      have h : s = [] := List.eq_nil_of_length_eq_zero (by have := HN.out; omega)
      rw [HB.out, h]; rfl)
    go_enter Try.func48, Try.ntmps48
    go_wp2_with fail
    go_ret
    exact ⟨ret_bool HR.out.symm, rfl⟩
  · have d0 : decide ((n : Int) < 1) = false := decide_eq_false (by omega)
    by_cases h24 : 24 < n
    · have d1 : decide ((24 : Int) < (n : Int)) = true := decide_eq_true (by omega)
      have HR := Lib.hid (show R = false from by rw [HB.out, decide_eq_false (by rw [← HN.out]; omega)]; rfl)
      go_enter Try.func48, Try.ntmps48
      go_wp2_with fail
      go_ret
      exact ⟨ret_bool HR.out.symm, rfl⟩
    · have d1 : decide ((24 : Int) < (n : Int)) = false := decide_eq_false (by omega)
      have HR := Lib.hid (show R = (fstC s && s.all inC) from by rw [HB.out, decide_eq_true (by rw [← HN.out]; omega)]; rfl)
      clear HB
      go_enter Try.func48, Try.ntmps48
      go_wp2_with fail
      go_loopw [3, 4, 5] (fun s3 s4 s5 wr => wr = w ∧ ∃ k : Nat, s3 = .int .i64 k ∧ k ≤ n ∧ (s.take k).all inC = true ∧ (0 < k → fstC s = true)) (fun s3 _ _ _ => n - (intOf s3).toNat)
      case atStart => exact ⟨rfl, 0, rfl, by omega, rfl, fun h => by omega⟩
      case round =>
        obtain ⟨rfl, k, rfl, hkn, hall, hfst⟩ := hrel
        have HA := Lib.hid (And.intro hall hfst)
        clear hall hfst
        by_cases hlt : k < n
        · have hks : k < s.length := by rw [← HN.out]; exact hlt
          obtain ⟨ch, hch⟩ : ∃ c, c = s[k] := ⟨_, rfl⟩
          have hkst : k < st.size := by omega
          have hg : st[k] = ch := by rw [hch]; exact st_get HST.out hkst hks
          have HCH := Lib.hid (show s.take (k + 1) = s.take k ++ [ch] from by rw [List.take_succ_eq_append_getElem hks, hch])
          have HBAD := Lib.hid (show inC ch = false → s.all inC = false from fun h => by
            rw [List.all_eq_false]
            exact ⟨ch, by rw [hch]; exact List.getElem_mem hks, by rw [h]; simp⟩)
          have HFS := Lib.hid (show k = 0 → fstC s = decide (97 ≤ ch.toNat ∧ ch.toNat ≤ 122) from fun h => by
            subst h
            rw [hch]
            exact fst_get hks)
          clear hch hks
          obtain ⟨x, hx⟩ : ∃ v, v = ch.toNat := ⟨_, rfl⟩
          have HI := Lib.hid (show inC ch = decide ((97 ≤ x ∧ x ≤ 122) ∨ (48 ≤ x ∧ x ≤ 57) ∨ x = 95) from by rw [hx]; rfl)
          have hx2 : st[k].toNat = x := by rw [hg, hx]
          rw [← hx] at HFS
          clear hx hg
          have hk0 : (0 : Int) ≤ (k : Int) := by omega
          have hkn2 : (k : Int) < (n : Int) := by omega
          have hd1 : decide ((k : Int) < (n : Int)) = true := decide_eq_true hkn2
          rcases (by omega : x < 48 ∨ (48 ≤ x ∧ x ≤ 57) ∨ (58 ≤ x ∧ x ≤ 94) ∨ x = 95 ∨ x = 96 ∨ (97 ≤ x ∧ x ≤ 122) ∨ 123 ≤ x) with q | q | q | q | q | q | q
          · have f1 : decide ((97 : Int) ≤ (x : Int)) = false := decide_eq_false (by omega)
            have f2 : decide ((x : Int) ≤ 122) = true := decide_eq_true (by omega)
            have f3 : decide ((48 : Int) ≤ (x : Int)) = false := decide_eq_false (by omega)
            have f4 : decide ((x : Int) ≤ 57) = true := decide_eq_true (by omega)
            have f5 : ((x : Int) == 95) = false := by rw [beq_eq_false_iff_ne]; omega
            by_cases hkz : k = 0
            · have hkb : ((k : Int) == 0) = true := by rw [hkz]; rfl
              have HRF := Lib.hid (show R = false from by rw [HR.out, HFS.out hkz, decide_eq_false (by omega)]; rfl)
              clear hkz
              go_wp2_with fail
              go_ret
              exact ⟨ret_bool HRF.out.symm, rfl⟩
            · have hkb : ((k : Int) == 0) = false := by rw [beq_eq_false_iff_ne]; omega
              have HRF := Lib.hid (show R = false from by rw [HR.out, HBAD.out (by rw [HI.out, decide_eq_false (by omega)])]; simp)
              clear hkz
              go_wp2_with fail
              go_ret
              exact ⟨ret_bool HRF.out.symm, rfl⟩
          · have f1 : decide ((97 : Int) ≤ (x : Int)) = false := decide_eq_false (by omega)
            have f2 : decide ((x : Int) ≤ 122) = true := decide_eq_true (by omega)
            have f3 : decide ((48 : Int) ≤ (x : Int)) = true := decide_eq_true (by omega)
            have f4 : decide ((x : Int) ≤ 57) = true := decide_eq_true (by omega)
            have f5 : ((x : Int) == 95) = false := by rw [beq_eq_false_iff_ne]; omega
            by_cases hkz : k = 0
            · have hkb : ((k : Int) == 0) = true := by rw [hkz]; rfl
              have HRF := Lib.hid (show R = false from by rw [HR.out, HFS.out hkz, decide_eq_false (by omega)]; rfl)
              clear hkz
              go_wp2_with fail
              go_ret
              exact ⟨ret_bool HRF.out.symm, rfl⟩
            · have hkb : ((k : Int) == 0) = false := by rw [beq_eq_false_iff_ne]; omega
              have HIN := Lib.hid (show inC ch = true from by rw [HI.out, decide_eq_true (by omega)])
              have HF1 := Lib.hid (HA.out.2 (by omega))
              clear hkz
              go_wp2_with fail
              go_roundw
              case rel => exact ⟨trivial, k + 1, by go_num, by omega, by rw [HCH.out, List.all_append, HA.out.1, List.all_cons, HIN.out]; rfl, fun _ => HF1.out⟩
              case measure => simp [intOf]; omega
          · have f1 : decide ((97 : Int) ≤ (x : Int)) = false := decide_eq_false (by omega)
            have f2 : decide ((x : Int) ≤ 122) = true := decide_eq_true (by omega)
            have f3 : decide ((48 : Int) ≤ (x : Int)) = true := decide_eq_true (by omega)
            have f4 : decide ((x : Int) ≤ 57) = false := decide_eq_false (by omega)
            have f5 : ((x : Int) == 95) = false := by rw [beq_eq_false_iff_ne]; omega
            by_cases hkz : k = 0
            · have hkb : ((k : Int) == 0) = true := by rw [hkz]; rfl
              have HRF := Lib.hid (show R = false from by rw [HR.out, HFS.out hkz, decide_eq_false (by omega)]; rfl)
              clear hkz
              go_wp2_with fail
              go_ret
              exact ⟨ret_bool HRF.out.symm, rfl⟩
            · have hkb : ((k : Int) == 0) = false := by rw [beq_eq_false_iff_ne]; omega
              have HRF := Lib.hid (show R = false from by rw [HR.out, HBAD.out (by rw [HI.out, decide_eq_false (by omega)])]; simp)
              clear hkz
              go_wp2_with fail
              go_ret
              exact ⟨ret_bool HRF.out.symm, rfl⟩
          · have f1 : decide ((97 : Int) ≤ (x : Int)) = false := decide_eq_false (by omega)
            have f2 : decide ((x : Int) ≤ 122) = true := decide_eq_true (by omega)
            have f3 : decide ((48 : Int) ≤ (x : Int)) = true := decide_eq_true (by omega)
            have f4 : decide ((x : Int) ≤ 57) = false := decide_eq_false (by omega)
            have f5 : ((x : Int) == 95) = true := by rw [beq_iff_eq]; omega
            by_cases hkz : k = 0
            · have hkb : ((k : Int) == 0) = true := by rw [hkz]; rfl
              have HRF := Lib.hid (show R = false from by rw [HR.out, HFS.out hkz, decide_eq_false (by omega)]; rfl)
              clear hkz
              go_wp2_with fail
              go_ret
              exact ⟨ret_bool HRF.out.symm, rfl⟩
            · have hkb : ((k : Int) == 0) = false := by rw [beq_eq_false_iff_ne]; omega
              have HIN := Lib.hid (show inC ch = true from by rw [HI.out, decide_eq_true (by omega)])
              have HF1 := Lib.hid (HA.out.2 (by omega))
              clear hkz
              go_wp2_with fail
              go_roundw
              case rel => exact ⟨trivial, k + 1, by go_num, by omega, by rw [HCH.out, List.all_append, HA.out.1, List.all_cons, HIN.out]; rfl, fun _ => HF1.out⟩
              case measure => simp [intOf]; omega
          · have f1 : decide ((97 : Int) ≤ (x : Int)) = false := decide_eq_false (by omega)
            have f2 : decide ((x : Int) ≤ 122) = true := decide_eq_true (by omega)
            have f3 : decide ((48 : Int) ≤ (x : Int)) = true := decide_eq_true (by omega)
            have f4 : decide ((x : Int) ≤ 57) = false := decide_eq_false (by omega)
            have f5 : ((x : Int) == 95) = false := by rw [beq_eq_false_iff_ne]; omega
            by_cases hkz : k = 0
            · have hkb : ((k : Int) == 0) = true := by rw [hkz]; rfl
              have HRF := Lib.hid (show R = false from by rw [HR.out, HFS.out hkz, decide_eq_false (by omega)]; rfl)
              clear hkz
              go_wp2_with fail
              go_ret
              exact ⟨ret_bool HRF.out.symm, rfl⟩
            · have hkb : ((k : Int) == 0) = false := by rw [beq_eq_false_iff_ne]; omega
              have HRF := Lib.hid (show R = false from by rw [HR.out, HBAD.out (by rw [HI.out, decide_eq_false (by omega)])]; simp)
              clear hkz
              go_wp2_with fail
              go_ret
              exact ⟨ret_bool HRF.out.symm, rfl⟩
          · have f1 : decide ((97 : Int) ≤ (x : Int)) = true := decide_eq_true (by omega)
            have f2 : decide ((x : Int) ≤ 122) = true := decide_eq_true (by omega)
            have f3 : decide ((48 : Int) ≤ (x : Int)) = true := decide_eq_true (by omega)
            have f4 : decide ((x : Int) ≤ 57) = false := decide_eq_false (by omega)
            have f5 : ((x : Int) == 95) = false := by rw [beq_eq_false_iff_ne]; omega
            have HIN := Lib.hid (show inC ch = true from by rw [HI.out, decide_eq_true (by omega)])
            have HF1 := Lib.hid (show fstC s = true from by
              by_cases hk : k = 0
              · rw [HFS.out hk, decide_eq_true (by omega)]
              · exact HA.out.2 (by omega))
            by_cases hkz : k = 0
            · have hkb : ((k : Int) == 0) = true := by rw [hkz]; rfl
              clear hkz
              go_wp2_with fail
              go_roundw
              case rel => exact ⟨trivial, k + 1, by go_num, by omega, by rw [HCH.out, List.all_append, HA.out.1, List.all_cons, HIN.out]; rfl, fun _ => HF1.out⟩
              case measure => simp [intOf]; omega
            · have hkb : ((k : Int) == 0) = false := by rw [beq_eq_false_iff_ne]; omega
              clear hkz
              go_wp2_with fail
              go_roundw
              case rel => exact ⟨trivial, k + 1, by go_num, by omega, by rw [HCH.out, List.all_append, HA.out.1, List.all_cons, HIN.out]; rfl, fun _ => HF1.out⟩
              case measure => simp [intOf]; omega
          · have f1 : decide ((97 : Int) ≤ (x : Int)) = true := decide_eq_true (by omega)
            have f2 : decide ((x : Int) ≤ 122) = false := decide_eq_false (by omega)
            have f3 : decide ((48 : Int) ≤ (x : Int)) = true := decide_eq_true (by omega)
            have f4 : decide ((x : Int) ≤ 57) = false := decide_eq_false (by omega)
            have f5 : ((x : Int) == 95) = false := by rw [beq_eq_false_iff_ne]; omega
            by_cases hkz : k = 0
            · have hkb : ((k : Int) == 0) = true := by rw [hkz]; rfl
              have HRF := Lib.hid (show R = false from by rw [HR.out, HFS.out hkz, decide_eq_false (by omega)]; rfl)
              clear hkz
              go_wp2_with fail
              go_ret
              exact ⟨ret_bool HRF.out.symm, rfl⟩
            · have hkb : ((k : Int) == 0) = false := by rw [beq_eq_false_iff_ne]; omega
              have HRF := Lib.hid (show R = false from by rw [HR.out, HBAD.out (by rw [HI.out, decide_eq_false (by omega)])]; simp)
              clear hkz
              go_wp2_with fail
              go_ret
              exact ⟨ret_bool HRF.out.symm, rfl⟩
        · have hke : k = n := by omega
          have hd1 : decide ((k : Int) < (n : Int)) = false := decide_eq_false (by omega)
          have HRT := Lib.hid (show R = true from by
            have h := HA.out.1
            rw [List.take_of_length_le (by rw [← HN.out]; omega)] at h
            rw [HR.out, h, HA.out.2 (by omega)]; rfl)
          clear hke
          go_wp2_with fail
          go_ret
          exact ⟨ret_bool HRT.out.symm, rfl⟩
theorem refName_any (s : ByteArray) (w : World) (hs : s.size ≤ 9223372036854775807) : Calls Try.prog 48 #[.string s] w fun e w' => e = .returned (.bool (nameB s.toList)) ∧ w' = w := by
  have h := refName_list s.toList w (by rw [ByteArray.toList_eq]; exact hs)
  rw [show (⟨s.toList.toArray⟩ : ByteArray) = s by rw [ByteArray.toList_eq]] at h
  exact h
end Go.Proofs.Ytpdofcjgpomehaa
