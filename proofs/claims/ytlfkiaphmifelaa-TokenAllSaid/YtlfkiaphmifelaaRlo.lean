/- Contracts of the document's low, dig, Skip. -/
import Derived.Test.YtlfkiaphmifelaaNum
import Derived.Test.YtlfkiaphmifelaaAls
namespace Go.Proofs.Ytlfkiaphmifelaa
open Go.RowKit

theorem low_any (c : UInt8) (w : World) : Calls Try.prog 23 #[.int .u8 (c.toNat : Nat)] w fun e w' => e = .returned (.bool (lowB c)) ∧ w' = w := by
  have HC : Hid (lowB c = (decide (97 ≤ c.toNat) && decide (c.toNat ≤ 122))) := rfl
  have h1 : c.toNat < 256 := UInt8.toNat_lt _
  generalize c.toNat = x at *
  by_cases ha : 97 ≤ x
  · by_cases hb : x ≤ 122
    · go_enter Try.func23, Try.ntmps23
      go_wp2_with fail
      go_ret
      exact ⟨by rw [HC.out]; simp [ha, hb]; omega, rfl⟩
    · go_enter Try.func23, Try.ntmps23
      go_wp2_with fail
      go_ret
      exact ⟨by rw [HC.out]; simp [ha, hb]; omega, rfl⟩
  · go_enter Try.func23, Try.ntmps23
    go_wp2_with fail
    go_ret
    exact ⟨by rw [HC.out]; simp [ha], rfl⟩
theorem dig_any (c : UInt8) (w : World) : Calls Try.prog 25 #[.int .u8 (c.toNat : Nat)] w fun e w' => e = .returned (.bool (digB c)) ∧ w' = w := by
  have HC : Hid (digB c = (decide (48 ≤ c.toNat) && decide (c.toNat ≤ 57))) := rfl
  have h1 : c.toNat < 256 := UInt8.toNat_lt _
  generalize c.toNat = x at *
  by_cases ha : 48 ≤ x
  · by_cases hb : x ≤ 57
    · go_enter Try.func25, Try.ntmps25
      go_wp2_with fail
      go_ret
      exact ⟨by rw [HC.out]; simp [ha, hb]; omega, rfl⟩
    · go_enter Try.func25, Try.ntmps25
      go_wp2_with fail
      go_ret
      exact ⟨by rw [HC.out]; simp [ha, hb]; omega, rfl⟩
  · go_enter Try.func25, Try.ntmps25
    go_wp2_with fail
    go_ret
    exact ⟨by rw [HC.out]; simp [ha], rfl⟩

/-- Where a place leads to: what is said from there is said from here. -/
def Leads (s : List UInt8) (i j : Nat) : Prop := i ≤ j ∧ j ≤ s.length ∧ (∀ l, allL s i l = allL s j l) ∧ ∀ c, s[j]? = some c → c ≠ 32 ∧ c ≠ 10 ∧ c ≠ 35

theorem skip_blank {s : List UInt8} {i : Nat} {c : UInt8} (hc : s[i]? = some c) (h : c = 32 ∨ c = 10) (l : List Tok) : allL s i l = allL s (i + 1) l := by
  rw [allL_step, hc]
  show (if c = 32 ∨ c = 10 then _ else _) = _
  rw [if_pos h]
theorem skip_remark {s : List UInt8} {i : Nat} {c : UInt8} (hc : s[i]? = some c) (h : c = 35) (l : List Tok) : allL s i l = allL s (scan notNl s (i + 1)) l := by
  rw [allL_step, hc]
  show (if c = 32 ∨ c = 10 then _ else _) = _
  rw [if_neg (by rw [h]; decide), if_pos h]

set_option maxHeartbeats 2000000 in
theorem skip_any (s : List UInt8) (i : Nat) (hs : s.length ≤ 100000) (hi : i ≤ s.length) (w : World) :
    Calls Try.prog 20 #[.string ⟨s.toArray⟩, .int .i64 (i : Nat)] w fun e w' => (∃ j, e = .returned (.int .i64 (j : Nat)) ∧ Leads s i j) ∧ w' = w := by
  obtain ⟨st, hst⟩ : ∃ st : ByteArray, st = ⟨s.toArray⟩ := ⟨_, rfl⟩
  have hsz : st.size = s.length := by rw [hst]; rfl
  obtain ⟨n, hn⟩ : ∃ n, n = s.length := ⟨_, rfl⟩
  rw [← hst]
  rw [← hn] at hsz hs hi
  have HST := Lib.hid hst
  have HN := Lib.hid hn
  clear hst hn
  go_enter Try.func20, Try.ntmps20
  go_wp2_with fail
  go_loopw [1, 5] (fun s1 s5 wr => wr = w ∧ ∃ (k : Nat) (r : Bool), s1 = .int .i64 k ∧ s5 = .bool r ∧ i ≤ k ∧ k ≤ n ∧ ∀ l, allL s i l = allL s (if r then scan notNl s k else k) l) (fun s1 _ _ => n - (intOf s1).toNat)
  case atStart => exact ⟨rfl, i, false, rfl, rfl, Nat.le_refl _, hi, fun _ => rfl⟩
  case round =>
    obtain ⟨rfl, k, r, rfl, rfl, hik, hkn, hL⟩ := hrel
    have HL := Lib.hid hL
    clear hL
    by_cases hlt : k < n
    · have hks : k < s.length := by rw [← HN.out]; exact hlt
      obtain ⟨ch, hch⟩ : ∃ c, c = s[k] := ⟨_, rfl⟩
      have hkst : k < st.size := by omega
      have hg : st[k] = ch := by rw [hch]; exact st_get HST.out hkst hks
      have HCH : Hid (s[k]? = some ch) := by rw [hch]; exact List.getElem?_eq_getElem hks
      have HSC : Hid (ch ≠ 10 → scan notNl s k = scan notNl s (k + 1)) := fun h => scan_step _ _ hks (by rw [← hch]; unfold notNl; simpa using h)
      have HS10 : Hid (ch = 10 → scan notNl s k = k) := fun h => scan_stop _ _ hks (by rw [← hch, h]; rfl)
      clear hch hks
      have HE : Hid (∀ q : UInt8, ch = q ↔ ch.toNat = q.toNat) := fun q => ⟨fun h => by rw [h], fun h => UInt8.toNat_inj.1 h⟩
      have hcl : ch.toNat < 256 := UInt8.toNat_lt _
      obtain ⟨cv, hcv⟩ : ∃ v, v = ch.toNat := ⟨_, rfl⟩
      have hg2 : st[k].toNat = cv := by rw [hg, hcv]
      have HCV := Lib.hid hcv
      rw [← hcv] at hcl
      clear hg hcv
      by_cases h10 : cv = 10
      · have hb : ((cv : Int) == 10) = true := by rw [h10]; rfl
        have H10 : Hid (ch = 10) := (HE.out 10).2 (HCV.out.symm.trans h10)
        clear h10
        go_wp2_with fail
        go_roundw
        case rel =>
          refine ⟨trivial, k + 1, false, by go_num, rfl, by omega, by omega, fun l => ?_⟩
          rw [HL.out l]
          cases r
          · exact skip_blank HCH.out (.inr H10.out) l
          · show allL s (scan notNl s k) l = _
            rw [HS10.out H10.out]
            exact skip_blank HCH.out (.inr H10.out) l
        case measure => simp [intOf]; omega
      · have hb : ((cv : Int) == 10) = false := by rw [beq_eq_false_iff_ne]; omega
        have HN10 : Hid (ch ≠ 10) := fun h => h10 (HCV.out.trans ((HE.out 10).1 h))
        clear h10
        by_cases h35 : cv = 35
        · have hb2 : ((cv : Int) == 35) = true := by rw [h35]; rfl
          have H35 : Hid (ch = 35) := (HE.out 35).2 (HCV.out.symm.trans h35)
          clear h35
          go_wp2_with fail
          go_roundw
          case rel =>
            refine ⟨trivial, k + 1, true, by go_num, rfl, by omega, by omega, fun l => ?_⟩
            rw [HL.out l]
            cases r
            · exact skip_remark HCH.out H35.out l
            · show allL s (scan notNl s k) l = allL s (scan notNl s (k + 1)) l
              rw [HSC.out HN10.out]
          case measure => simp [intOf]; omega
        · have hb2 : ((cv : Int) == 35) = false := by rw [beq_eq_false_iff_ne]; omega
          have HN35 : Hid (ch ≠ 35) := fun h => h35 (HCV.out.trans ((HE.out 35).1 h))
          clear h35
          cases r
          · by_cases h32 : cv = 32
            · have hb3 : ((cv : Int) != 32) = false := by rw [h32]; rfl
              have H32 : Hid (ch = 32) := (HE.out 32).2 (HCV.out.symm.trans h32)
              clear h32
              go_wp2_with fail
              go_roundw
              case rel => exact ⟨trivial, k + 1, false, by go_num, rfl, by omega, by omega, fun l => (HL.out l).trans (skip_blank HCH.out (.inl H32.out) l)⟩
              case measure => simp [intOf]; omega
            · have hb3 : ((cv : Int) != 32) = true := by rw [bne_iff_ne]; omega
              have HN32 : Hid (ch ≠ 32) := fun h => h32 (HCV.out.trans ((HE.out 32).1 h))
              clear h32
              go_wp2_with fail
              go_ret
              refine ⟨⟨k, rfl, hik, by rw [← HN.out]; exact hkn, HL.out, fun c hc => ?_⟩, rfl⟩
              rw [HCH.out] at hc
              injection hc with hc
              rw [← hc]
              exact ⟨HN32.out, HN10.out, HN35.out⟩
          · go_wp2_with fail
            go_roundw
            case rel =>
              refine ⟨trivial, k + 1, true, by go_num, rfl, by omega, by omega, fun l => ?_⟩
              rw [HL.out l]
              show allL s (scan notNl s k) l = allL s (scan notNl s (k + 1)) l
              rw [HSC.out HN10.out]
            case measure => simp [intOf]; omega
    · have hkn2 : k = n := by omega
      have HK : Hid (Leads s i k) := by
        refine ⟨hik, by rw [← HN.out]; omega, fun l => ?_, fun c hc => ?_⟩
        · rw [HL.out l]
          cases r
          · rfl
          · show allL s (scan notNl s k) l = _
            rw [scan_end _ _ (by rw [← HN.out]; omega)]
        · rw [List.getElem?_eq_none (by rw [← HN.out]; omega)] at hc; cases hc
      go_wp2_with fail
      go_ret
      exact ⟨⟨k, rfl, HK.out⟩, rfl⟩
end Go.Proofs.Ytlfkiaphmifelaa
