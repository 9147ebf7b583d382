/- Contract of agree. -/
import Derived.Test.YtjodglepaeomiaaTk1
namespace Go.Proofs.Ytjodglepaeomiaa
open Go.RowKit

theorem have_le (S : Sv) (m : Nat) : ∀ k, S.have_ m k ≤ k + 1
  | 0 => Nat.le_refl _
  | k + 1 => by have := have_le S m k; rw [Sv.have_]; split <;> omega
theorem agr_stop {S : Sv} {m : Nat} (h : ¬ (S.commit < m ∧ termAt S.log m = S.term)) : S.agr m = S.commit := by
  cases m with
  | zero => rfl
  | succ m => rw [Sv.agr, if_neg h]
theorem agr_yes {S : Sv} {m : Nat} (h : S.commit < m ∧ termAt S.log m = S.term) (h2 : S.n < 2 * S.have_ m S.n) : S.agr m = m := by
  cases m with
  | zero => omega
  | succ m => rw [Sv.agr, if_pos h, if_pos h2]
theorem agr_no {S : Sv} {m : Nat} (h : S.commit < m + 1 ∧ termAt S.log (m + 1) = S.term) (h2 : ¬ S.n < 2 * S.have_ (m + 1) S.n) : S.agr (m + 1) = S.agr m := by
  rw [Sv.agr, if_pos h, if_neg h2]
set_option maxRecDepth 100000 in
set_option maxHeartbeats 8000000 in
theorem agree_any (S : Sv) (g : Nat) (A : Option Addr) (c : Nat) (w : World) (hS : SvM w g S A c) (hl : S.log.length ≤ 4096) (hn : S.n ≤ 7) (hcm : S.commit ≤ 4096) :
    Calls Try.prog 48 #[.pointer (some ⟨g, 0, none⟩)] w fun e w' => e = .returned (.tuple #[]) ∧ KeepsM w g A S.agree w' := by
  have HM : Hid (∀ W, Below w.heap.size w W → SvM W g S A c) := fun W hW => hS.below hW
  obtain ⟨l, hll⟩ : ∃ l, l = S.log.length := ⟨_, rfl⟩
  obtain ⟨n, hnn⟩ : ∃ n, n = S.n := ⟨_, rfl⟩
  obtain ⟨cm, hcc⟩ : ∃ n, n = S.commit := ⟨_, rfl⟩
  obtain ⟨id, hid_⟩ : ∃ n, n = S.id := ⟨_, rfl⟩
  have HN := Lib.hid (And.intro hll (And.intro hnn (And.intro hcc hid_)))
  rw [← hll] at hl
  rw [← hnn] at hn
  rw [← hcc] at hcm
  have HC : Hid (∀ W, Below w.heap.size w W → W.cell? ⟨g, 0, none⟩ = some (.int .i64 (id : Nat)) ∧ W.cell? ⟨g, 1, none⟩ = some (.int .i64 (n : Nat)) ∧ W.cell? ⟨g, 2, none⟩ = some (.int .i64 S.term) ∧ W.cell? ⟨g, 7, none⟩ = some (.int .i64 (cm : Nat))) := fun W hW =>
    ⟨by rw [hid_]; exact (HM.out W hW).c0, by rw [hnn]; exact (HM.out W hW).c1, (HM.out W hW).c2, by rw [hcc]; exact (HM.out W hW).c7⟩
  have HLA := Lib.hid (last_any w g l c A (by rw [hll]; exact hS.c4))
  obtain ⟨R, hR⟩ : ∃ R, R = S.agr l := ⟨_, rfl⟩
  have HR := Lib.hid hR
  have HAG : Hid (S.agree = { S with commit := R }) := by rw [hR, hll]; rfl
  rw [HAG.out]
  clear hS hll hnn hcc hid_ hR
  go_enter Try.func48, Try.ntmps48
  go_wp2_with fail
  refine HLA.out.mono ?_
  rintro e w1 ⟨rfl, hw1⟩
  rw [hw1]
  clear hw1 w1 HLA
  go_wp2_with fail
  go_loopw [2] (fun s2 wr => ∃ m : Nat, s2 = .int .i64 (m : Nat) ∧ m ≤ l ∧ S.agr m = R ∧ Below w.heap.size w wr) (fun s2 _ => (intOf s2).toNat)
  case atStart => exact ⟨l, rfl, Nat.le_refl _, HR.out.symm, Below.refl _ _⟩
  case round =>
    obtain ⟨m, rfl, hm, hag, hb⟩ := hrel
    have HB := Lib.hid (And.intro hb hag)
    have hC := HC.out wr hb
    obtain ⟨k0, k1, k2, k7⟩ := hC
    clear hb hag
    by_cases hgt : cm < m
    · have d1 : decide ((cm : Int) < (m : Int)) = true := decide_eq_true (by omega)
      have HT := Lib.hid (fun N => term_any ((HM.out wr HB.out.1).drewN N) m (by rw [← HN.out.1]; exact hm) (by rw [← HN.out.1]; omega))
      by_cases hte : termAt S.log m = S.term
      · have b1 : (termAt S.log m == S.term) = true := by simp [hte]
        have HY := Lib.hid (show S.commit < m ∧ termAt S.log m = S.term from ⟨by rw [← HN.out.2.2.1]; exact hgt, hte⟩)
        clear hte
        obtain ⟨T, hT⟩ : ∃ T, T = termAt S.log m := ⟨_, rfl⟩
        rw [← hT] at HT b1
        clear hT
        go_wp2_with fail
        go_quiet (refine Calls.quiet_of_same (HT.out _))
        have HB2 := Lib.hid (below_drewN HB.out.1 nq)
        have hC := HC.out _ HB2.out
        obtain ⟨j0, j1, j2, j7⟩ := hC
        have f7 : (wr.drewN nq).frozen? ⟨g, 7, none⟩ = false := (HM.out _ HB2.out).top.frozen 7
        generalize wr.drewN nq = w2 at *
        clear k0 k1 k2 k7 HT
        go_wp2_with fail
        go_loopw [3, 30] (fun s3 s30 wl => ∃ k : Nat, s3 = .int .i64 (S.have_ m k : Nat) ∧ s30 = .int .i64 (k : Nat) ∧ k ≤ n ∧ wl = w2) (fun _ s30 _ => n - (intOf s30).toNat)
        case atStart => exact ⟨0, rfl, rfl, by omega, rfl⟩
        case round =>
          obtain ⟨k, rfl, rfl, hk, rfl⟩ := hrel
          have hle := have_le S m k
          by_cases hlt : k < n
          · have d2 : decide ((k : Int) < (n : Int)) = true := decide_eq_true (by omega)
            have i0 : (0 : Int) ≤ (k : Int) := by omega
            have i7 : (k : Int) < 7 := by omega
            by_cases hid : k = id
            · have b2 : ((k : Int) != (id : Int)) = false := by simp [hid]
              have HH := Lib.hid (show S.have_ m (k + 1) = S.have_ m k from by rw [Sv.have_, if_neg (fun h => h.1 (hid.trans HN.out.2.2.2)), Nat.add_zero])
              clear hid
              generalize S.have_ m k = hv at *
              go_wp2_with fail
              go_roundw
              case rel => exact ⟨k + 1, by rw [HH.out], by go_num, by omega, trivial⟩
              case measure => simp [intOf]; omega
            · have b2 : ((k : Int) != (id : Int)) = true := by simp; omega
              have jm := (HM.out _ HB2.out).cm (show k < 7 by omega)
              obtain ⟨q, hq⟩ : ∃ q, q = S.mt.getD k 0 := ⟨_, rfl⟩
              rw [← hq] at jm
              by_cases hge : m ≤ q
              · have d3 : decide ((m : Int) ≤ (q : Int)) = true := decide_eq_true (by omega)
                have HH := Lib.hid (show S.have_ m (k + 1) = S.have_ m k + 1 from by rw [Sv.have_, if_pos ⟨fun h => hid (h.trans HN.out.2.2.2.symm), hq ▸ hge⟩])
                clear hid hq
                generalize S.have_ m k = hv at *
                go_wp2_with fail
                go_roundw
                case rel => exact ⟨k + 1, by rw [HH.out]; go_num, by go_num, by omega, trivial⟩
                case measure => simp [intOf]; omega
              · have d3 : decide ((m : Int) ≤ (q : Int)) = false := decide_eq_false (by omega)
                have HH := Lib.hid (show S.have_ m (k + 1) = S.have_ m k from by rw [Sv.have_, if_neg (fun h => hge (hq ▸ h.2)), Nat.add_zero])
                clear hid hq
                generalize S.have_ m k = hv at *
                go_wp2_with fail
                go_roundw
                case rel => exact ⟨k + 1, by rw [HH.out], by go_num, by omega, trivial⟩
                case measure => simp [intOf]; omega
          · have d2 : decide ((k : Int) < (n : Int)) = false := decide_eq_false (by omega)
            have hkn : k = n := by omega
            have HKN := Lib.hid hkn
            by_cases hma : n < 2 * S.have_ m k
            · have d4 : decide ((n : Int) < 2 * ((S.have_ m k : Nat) : Int)) = true := decide_eq_true (by omega)
              have HRM : Hid (R = m) := by
                rw [← HB.out.2]
                exact Lib.hid (agr_yes HY.out (by rw [← HN.out.2.1]; rw [HKN.out] at hma; exact hma))
              clear hkn
              generalize S.have_ m k = hv at *
              go_wp2_with fail
              try simp only [Exit.inBlock, Exit.then]
              refine bodyPost_ret (results_none rfl _ _ _) rfl ?_
              refine ⟨rfl, ?_⟩
              rw [HRM.out]
              have hk := (HM.out _ HB2.out).kset (S' := { S with commit := m }) 7 (.int .i64 (m : Nat)) rfl (HM.out _ HB2.out).nxl (HM.out _ HB2.out).mtl rfl
              exact KeepsM.trans (.of_below HB2.out) (fun a ha => .inl ⟨a, ha, rfl⟩) hk
            · have d4 : decide ((n : Int) < 2 * ((S.have_ m k : Nat) : Int)) = false := decide_eq_false (by omega)
              obtain ⟨m', hm'⟩ : ∃ m', m = m' + 1 := ⟨m - 1, by omega⟩
              have HRM : Hid (S.agr m' = R) := by
                have h := HY.out
                have hb := HB.out.2
                rw [hm'] at h hma hb
                rw [← hb]
                exact Lib.hid (agr_no h (by rw [← HN.out.2.1]; rw [hkn] at hma; exact hma)).symm
              have HMM := Lib.hid hm'
              clear hkn hm'
              generalize S.have_ m k = hv at *
              go_wp2_with fail
              go_roundw
              case rel =>
                have hm' := HMM.out
                exact ⟨m', by go_num, by omega, HRM.out, HB2.out⟩
              case measure => simp [intOf]; omega
      · have b1 : (termAt S.log m == S.term) = false := by simp [hte]
        have HRC : Hid (R = S.commit) := by rw [← HB.out.2]; exact agr_stop (fun h => hte h.2)
        clear hte
        obtain ⟨T, hT⟩ : ∃ T, T = termAt S.log m := ⟨_, rfl⟩
        rw [← hT] at HT b1
        clear hT
        go_wp2_with fail
        go_quiet (refine Calls.quiet_of_same (HT.out _))
        have HB2 := Lib.hid (below_drewN HB.out.1 nq)
        go_wp2_with fail
        go_end0
        refine ⟨rfl, ?_⟩
        rw [HRC.out]
        exact ⟨A, c, HM.out _ HB2.out, .of_below HB2.out, fun a ha => .inl ⟨a, ha, rfl⟩⟩
    · have d1 : decide ((cm : Int) < (m : Int)) = false := decide_eq_false (by omega)
      have HRC : Hid (R = S.commit) := by rw [← HB.out.2]; exact agr_stop (fun h => hgt (by have := h.1; rw [← HN.out.2.2.1] at this; exact this))
      go_wp2_with fail
      go_quiet (fail)
      have HB2 := Lib.hid (below_drewN HB.out.1 nq)
      go_wp2_with fail
      go_end0
      refine ⟨rfl, ?_⟩
      rw [HRC.out]
      exact ⟨A, c, HM.out _ HB2.out, .of_below HB2.out, fun a ha => .inl ⟨a, ha, rfl⟩⟩
end Go.Proofs.Ytjodglepaeomiaa
