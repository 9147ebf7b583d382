/- Contract of the document's escape. -/
import Derived.Test.YtlfkiaphmifelaaHex
namespace Go.Proofs.Ytlfkiaphmifelaa
open Go.RowKit

/-- What escape hands back. -/
def escR (r : (Nat × Nat) ⊕ (Nat × Nat)) : Nat × Nat × Nat × Nat := match r with
  | .inl (q, e) => (0, 0, q, e)
  | .inr (x, nx) => (x, nx, 0, 0)
def EscPost (w : World) (R : Nat × Nat × Nat × Nat) (e : Ending) (w' : World) : Prop :=
  e = .returned (.tuple #[.int .u8 (R.1 : Nat), .int .i64 (R.2.1 : Nat), .int .i64 (R.2.2.1 : Nat), .int .i64 (R.2.2.2 : Nat)]) ∧ w' = w

set_option maxHeartbeats 4000000 in
theorem escape_any (s : List UInt8) (i : Nat) (hs : s.length ≤ 100000) (w : World) :
    Calls Try.prog 31 #[.string ⟨s.toArray⟩, .int .i64 (i : Nat)] w (EscPost w (escR (escL s i))) := by
  obtain ⟨st, hst⟩ : ∃ st : ByteArray, st = ⟨s.toArray⟩ := ⟨_, rfl⟩
  have hsz : st.size = s.length := by rw [hst]; rfl
  obtain ⟨n, hn⟩ : ∃ n, n = s.length := ⟨_, rfl⟩
  rw [← hst]
  rw [← hn] at hsz hs
  have HST := Lib.hid hst
  have HN := Lib.hid hn
  clear hst hn
  go_enter Try.func31, Try.ntmps31
  by_cases hin : n ≤ i
  · have HR : Hid (escR (escL s i) = (0, 0, n, 4)) := by unfold escL; rw [List.getElem?_eq_none (by rw [← HN.out]; exact hin), HN.out]; exact rfl
    go_wp2_with fail
    refine bodyPost_ret (results_tmp4 rfl _ _ _) rfl ?_
    exact ⟨by rw [HR.out]; rfl, rfl⟩
  · have hlt : i < n := by omega
    have hdn : decide (n ≤ i) = false := decide_eq_false hin
    clear hin
    have hks : i < s.length := by rw [← HN.out]; exact hlt
    obtain ⟨ch, hch⟩ : ∃ c, c = s[i] := ⟨_, rfl⟩
    have hkst : i < st.size := by omega
    have hg : st[i] = ch := by rw [hch]; exact st_get HST.out hkst hks
    have HCH : Hid (s[i]? = some ch) := by rw [hch]; exact List.getElem?_eq_getElem hks
    have HR0 : Hid (escL s i = if ch = 34 ∨ ch = 92 then .inr (ch.toNat, i + 1) else if ch = 110 then .inr (10, i + 1) else if ch = 120 then hex2 s (i + 1) else .inl (i, 9)) := by unfold escL; rw [HCH.out]; exact rfl
    clear hch hks
    have HE : Hid (∀ q : UInt8, ch = q ↔ ch.toNat = q.toNat) := fun q => ⟨fun h => by rw [h], fun h => UInt8.toNat_inj.1 h⟩
    have hcl : ch.toNat < 256 := UInt8.toNat_lt _
    obtain ⟨cv, hcv⟩ : ∃ v, v = ch.toNat := ⟨_, rfl⟩
    have hg2 : st[i].toNat = cv := by rw [hg, hcv]
    have HCV := Lib.hid hcv
    rw [← hcv] at hcl
    clear hg hcv
    by_cases h1 : cv = 34
    · have hb1 : ((cv : Int) == 34) = true := by rw [h1]; rfl
      have HR : Hid (escR (escL s i) = (cv, i + 1, 0, 0)) := by rw [HR0.out, if_pos (.inl ((HE.out 34).2 (HCV.out.symm.trans h1))), ← HCV.out]; exact rfl
      clear h1 HR0
      go_wp2_with fail
      refine bodyPost_ret (results_tmp4 rfl _ _ _) rfl ?_
      exact ⟨by rw [HR.out]; rfl, rfl⟩
    · have hb1 : ((cv : Int) == 34) = false := by rw [beq_eq_false_iff_ne]; omega
      by_cases h2 : cv = 92
      · have hb2 : ((cv : Int) == 92) = true := by rw [h2]; rfl
        have HR : Hid (escR (escL s i) = (cv, i + 1, 0, 0)) := by rw [HR0.out, if_pos (.inr ((HE.out 92).2 (HCV.out.symm.trans h2))), ← HCV.out]; exact rfl
        clear h1 h2 HR0
        go_wp2_with fail
        refine bodyPost_ret (results_tmp4 rfl _ _ _) rfl ?_
        exact ⟨by rw [HR.out]; rfl, rfl⟩
      · have hb2 : ((cv : Int) == 92) = false := by rw [beq_eq_false_iff_ne]; omega
        have HN1 : Hid (¬ (ch = 34 ∨ ch = 92)) := fun h => h.elim (fun h => h1 (HCV.out.trans ((HE.out 34).1 h))) (fun h => h2 (HCV.out.trans ((HE.out 92).1 h)))
        clear h1 h2
        by_cases h3 : cv = 110
        · have hb3 : ((cv : Int) == 110) = true := by rw [h3]; rfl
          have HR : Hid (escR (escL s i) = (10, i + 1, 0, 0)) := by rw [HR0.out, if_neg HN1.out, if_pos ((HE.out 110).2 (HCV.out.symm.trans h3))]; exact rfl
          clear h3 HR0
          go_wp2_with fail
          refine bodyPost_ret (results_tmp4 rfl _ _ _) rfl ?_
          exact ⟨by rw [HR.out]; rfl, rfl⟩
        · have hb3 : ((cv : Int) == 110) = false := by rw [beq_eq_false_iff_ne]; omega
          by_cases h4 : cv = 120
          · have hb4 : ((cv : Int) != 120) = false := by rw [h4]; rfl
            have HR1 : Hid (escR (escL s i) = escR (hex2 s (i + 1))) := by rw [HR0.out, if_neg HN1.out, if_neg (fun h => h3 (HCV.out.trans ((HE.out 110).1 h))), if_pos ((HE.out 120).2 (HCV.out.symm.trans h4))]; exact rfl
            clear h3 h4 HR0
            go_wp2_with fail
            go_loopw [9, 10] (fun s9 s10 wr => wr = w ∧ ∃ j x : Nat, s10 = .int .i64 ((i + 1 + j : Nat) : Int) ∧ s9 = .int .i64 x ∧ x < 256 ∧ ((j = 0 ∧ x = 0) ∨ (j = 1 ∧ x < 16 ∧ i + 1 < n ∧ ∃ a : UInt8, s[i + 1]? = some a ∧ hexD a = some x) ∨ (j = 2 ∧ i + 2 < n ∧ hex2 s (i + 1) = .inr (x, i + 3)))) (fun _ s10 _ => i + 3 - (intOf s10).toNat)
            case atStart => exact ⟨rfl, 0, 0, by first | rfl | (congr 1), rfl, by omega, .inl ⟨rfl, rfl⟩⟩
            case round =>
              obtain ⟨rfl, j, x, rfl, rfl, hx, hj⟩ := hrel
              rcases hj with ⟨rfl, rfl⟩ | ⟨rfl, hx16, hk2n, a, ha, hax⟩ | ⟨rfl, hk3, hh⟩
              · by_cases hke : n ≤ i + 1
                · have HR : Hid (escR (escL s i) = (0, 0, n, 4)) := by
                    rw [HR1.out]
                    unfold hex2
                    rw [List.getElem?_eq_none (by rw [← HN.out]; omega), HN.out]; exact rfl
                  go_wp2_with fail
                  refine bodyPost_ret (results_tmp4 rfl _ _ _) rfl ?_
                  exact ⟨by rw [HR.out]; rfl, rfl⟩
                · have hkl : i + 1 < n := by omega
                  clear hke
                  have hks : i + 1 < s.length := by rw [← HN.out]; exact hkl
                  obtain ⟨d1, hd1⟩ : ∃ c, c = s[i + 1] := ⟨_, rfl⟩
                  have hkst2 : i + 1 < st.size := by omega
                  have hgd : st[i + 1] = d1 := by rw [hd1]; exact st_get HST.out hkst2 hks
                  have HD1 : Hid (s[i + 1]? = some d1) := by rw [hd1]; exact List.getElem?_eq_getElem hks
                  clear hd1 hks
                  go_wp2_with fail
                  refine (refHex_any d1 _).mono ?_
                  rintro e w2 ⟨rfl, hw2⟩
                  rw [hw2]
                  clear hw2 w2
                  cases hhd : hexD d1 with
                  | none =>
                    have HR : Hid (escR (escL s i) = (0, 0, i + 1, 9)) := by
                      rw [HR1.out]
                      unfold hex2
                      rw [HD1.out]
                      simp only [hhd]
                      exact rfl
                    clear hhd
                    simp only [Option.elim]
                    go_wp2_with fail
                    refine bodyPost_ret (results_tmp4 rfl _ _ _) rfl ?_
                    exact ⟨by rw [HR.out]; rfl, rfl⟩
                  | some d =>
                    have hd16 := hexD_lt hhd
                    have HHD := Lib.hid hhd
                    clear hhd
                    simp only [Option.elim]
                    go_wp2_with fail
                    go_roundw
                    case rel => exact ⟨trivial, 1, d, congrArg (Value.int .i64) (by omega), congrArg (Value.int .i64) (by omega), by omega, .inr (.inl ⟨rfl, hd16, hkl, d1, HD1.out, HHD.out⟩)⟩
                    case measure => simp [intOf]; omega
              · have HA := Lib.hid (And.intro ha hax)
                clear ha hax
                by_cases hke : n ≤ i + 2
                · have HR : Hid (escR (escL s i) = (0, 0, n, 4)) := by
                    rw [HR1.out]
                    unfold hex2
                    rw [HA.out.1]
                    simp only [HA.out.2]
                    rw [List.getElem?_eq_none (by rw [← HN.out]; omega), HN.out]; exact rfl
                  go_wp2_with fail
                  refine bodyPost_ret (results_tmp4 rfl _ _ _) rfl ?_
                  exact ⟨by rw [HR.out]; rfl, rfl⟩
                · have hkl : i + 2 < n := by omega
                  clear hke
                  have hks : i + 2 < s.length := by rw [← HN.out]; exact hkl
                  obtain ⟨d1, hd1⟩ : ∃ c, c = s[i + 2] := ⟨_, rfl⟩
                  have hkst2 : i + 2 < st.size := by omega
                  have hgd : st[i + 2] = d1 := by rw [hd1]; exact st_get HST.out hkst2 hks
                  have HD1 : Hid (s[i + 2]? = some d1) := by rw [hd1]; exact List.getElem?_eq_getElem hks
                  clear hd1 hks
                  go_wp2_with fail
                  refine (refHex_any d1 _).mono ?_
                  rintro e w2 ⟨rfl, hw2⟩
                  rw [hw2]
                  clear hw2 w2
                  cases hhd : hexD d1 with
                  | none =>
                    have HR : Hid (escR (escL s i) = (0, 0, i + 2, 9)) := by
                      rw [HR1.out]
                      unfold hex2
                      rw [HA.out.1]
                      simp only [HA.out.2]
                      rw [HD1.out]
                      simp only [hhd]
                      exact rfl
                    clear hhd
                    simp only [Option.elim]
                    go_wp2_with fail
                    refine bodyPost_ret (results_tmp4 rfl _ _ _) rfl ?_
                    exact ⟨by rw [HR.out]; rfl, rfl⟩
                  | some d =>
                    have hd16 := hexD_lt hhd
                    have HHD := Lib.hid hhd
                    clear hhd
                    simp only [Option.elim]
                    go_wp2_with fail
                    go_roundw
                    case rel =>
                      refine ⟨trivial, 2, 16 * x + d, congrArg (Value.int .i64) (by omega), congrArg (Value.int .i64) (by omega), by omega, .inr (.inr ⟨rfl, hkl, ?_⟩)⟩
                      unfold hex2
                      rw [HA.out.1]
                      simp only [HA.out.2]
                      rw [HD1.out]
                      simp only [HHD.out]
                    case measure => simp [intOf]; omega
              · have HR : Hid (escR (escL s i) = (x, i + 3, 0, 0)) := by rw [HR1.out, hh]; exact rfl
                clear hh
                go_wp2_with fail
                refine bodyPost_ret (results_tmp4 rfl _ _ _) rfl ?_
                exact ⟨by rw [HR.out]; first | rfl | (refine congrArg Ending.returned ?_; simp; omega), rfl⟩
          · have hb4 : ((cv : Int) != 120) = true := by rw [bne_iff_ne]; omega
            have HR : Hid (escR (escL s i) = (0, 0, i, 9)) := by rw [HR0.out, if_neg HN1.out, if_neg (fun h => h3 (HCV.out.trans ((HE.out 110).1 h))), if_neg (fun h => h4 (HCV.out.trans ((HE.out 120).1 h)))]; exact rfl
            clear h3 h4 HR0
            go_wp2_with fail
            refine bodyPost_ret (results_tmp4 rfl _ _ _) rfl ?_
            exact ⟨by rw [HR.out]; rfl, rfl⟩
end Go.Proofs.Ytlfkiaphmifelaa
