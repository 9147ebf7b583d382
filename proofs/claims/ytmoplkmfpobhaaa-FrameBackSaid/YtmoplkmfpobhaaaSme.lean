/- Contract of prompterref06.Same. -/
import Derived.Test.YtmoplkmfpobhaaaSpl
namespace Go.Proofs.Ytmoplkmfpobhaaa
open Go.RowKit

def SamePost (b : Bool) (w : World) (e : Ending) (w' : World) : Prop := e = .returned (.bool b) ∧ ∃ m, w' = w.drewN m
theorem take_ne {ls ks : List (List UInt8)} {k : Nat} (h1 : k < ls.length) (h2 : k < ks.length) (h : ls[k] ≠ ks[k]) : decide (ls = ks) = false :=
  decide_eq_false fun e => h (by subst e; rfl)
theorem take_eq {ls ks : List (List UInt8)} {k : Nat} (h1 : k < ls.length) (h2 : k < ks.length) (h : ls[k] = ks[k]) (ht : ls.take k = ks.take k) : ls.take (k + 1) = ks.take (k + 1) := by
  rw [List.take_succ_eq_append_getElem h1, List.take_succ_eq_append_getElem h2, h, ht]

set_option maxHeartbeats 1000000 in
theorem same_any (A1 A2 : Option Addr) (c1 c2 : Nat) (ls ks : List (List UInt8)) (w : World) (B : Nat) (h1 : RL w B A1 ls) (h2 : RL w B A2 ks) (hm1 : ls.length ≤ 9223372036854775807) :
    Calls Try.prog 19 #[.slice A1 ls.length c1, .slice A2 ks.length c2] w (SamePost (decide (ls = ks)) w) := by
  have H1 := Lib.hid h1
  have H2 := Lib.hid h2
  clear h1 h2
  by_cases hl : ls.length = ks.length
  · have HLN := Lib.hid hl
    obtain ⟨n, hn⟩ : ∃ n, n = ls.length := ⟨_, rfl⟩
    have hn2 : n = ks.length := by omega
    rw [← hn, ← hn2]
    rw [← hn] at hm1
    have HN1 := Lib.hid hn
    have HN2 := Lib.hid hn2
    clear hl hn hn2
    go_enter Try.func19, Try.ntmps19
    go_wp2_with fail
    go_loopw [5] (fun i wr => ∃ k : Nat, k ≤ n ∧ i = .int .i64 k ∧ ls.take k = ks.take k ∧ ∃ m, wr = w.drewN m) (fun i _ => n - (intOf i).toNat)
    case atStart => exact ⟨0, Nat.zero_le _, rfl, by simp, 0, rfl⟩
    case round =>
      obtain ⟨k, hk, rfl, ht, m, hm⟩ := hrel
      have HT := Lib.hid ht
      have HM := Lib.hid hm
      clear ht hm
      by_cases hlt : k < n
      · have k1 : k < ls.length := by rw [← HN1.out]; exact hlt
        have k2 : k < ks.length := by rw [← HN2.out]; exact hlt
        have q1 : RL wr B A1 ls := by rw [HM.out]; exact H1.out.below (drewN_below (Below.refl _ _) _)
        have q2 : RL wr B A2 ks := by rw [HM.out]; exact H2.out.below (drewN_below (Below.refl _ _) _)
        obtain ⟨b1, o1, A1', d1, rfl, hc1, hr1⟩ := q1.at_ k1
        obtain ⟨b2, o2, A2', d2, rfl, hc2, hr2⟩ := q2.at_ k2
        have s1 := fun n => run_str_reads (P := Try.prog) (wr.drewN n) 22 9 5 B A1' d1 ls[k] Try.underlying22 Try.underlying5 Try.underlying9 (hr1.drewN n)
        have s2 := fun n => run_str_reads (P := Try.prog) (wr.drewN n) 22 9 5 B A2' d2 ks[k] Try.underlying22 Try.underlying5 Try.underlying9 (hr2.drewN n)
        have HY : Hid (ls[k] = ks[k] → ls.take (k + 1) = ks.take (k + 1)) := fun h => take_eq k1 k2 h HT.out
        have HX : Hid (ls[k] ≠ ks[k] → decide (ls = ks) = false) := take_ne k1 k2
        clear q1 q2 hr1 hr2
        generalize ls[k] = x at *
        generalize ks[k] = y at *
        clear k1 k2
        go_wp2_with fail
        go_quiet (fail)
        go_wp2_with fail
        · have hxy : (!x == y) = true := by assumption
          go_ret
          exact ⟨by rw [HX.out (by simpa using hxy)]; rfl, m + nq, by rw [HM.out, World.drewN_drewN]⟩
        · have hxy : (!x == y) = false := by assumption
          go_roundw
          case rel => exact ⟨k + 1, by omega, by go_num, HY.out (by simpa using hxy), m + nq, by rw [HM.out, World.drewN_drewN]⟩
          case measure => simp [intOf]; omega
      · have hkn : k = n := by omega
        have HE := Lib.hid (show decide (ls = ks) = true from decide_eq_true (by
          have h := HT.out
          rwa [hkn, List.take_of_length_le (by rw [← HN1.out]; exact Nat.le_refl _), List.take_of_length_le (by rw [← HN2.out]; exact Nat.le_refl _)] at h))
        clear hkn
        go_wp2_with fail
        go_ret
        exact ⟨by rw [HE.out]; rfl, m, HM.out⟩
  · have HE := Lib.hid (show decide (ls = ks) = false from decide_eq_false fun h => hl (by rw [h]))
    have hne : ((ls.length : Int) != (ks.length : Int)) = true := by rw [bne_iff_ne]; omega
    clear hl
    go_enter Try.func19, Try.ntmps19
    go_wp2_with fail
    go_ret
    exact ⟨by rw [HE.out]; rfl, 0, rfl⟩
end Go.Proofs.Ytmoplkmfpobhaaa
