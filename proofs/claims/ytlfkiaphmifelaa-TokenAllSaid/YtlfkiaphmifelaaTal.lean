/- The walk of prompterlaw07.TokenAll: it returns true. -/
import Derived.Test.YtlfkiaphmifelaaWak
import Derived.Test.YtlfkiaphmifelaaRal
namespace Go.Proofs.Ytlfkiaphmifelaa
open Go.RowKit

set_option maxRecDepth 100000 in
set_option maxHeartbeats 4000000 in
theorem tokenAll_walk (st : ByteArray) (w0 : st.size ≤ maxLen) (w : World) :
    Calls Try.prog 4 #[.string st] w fun e w' => e = .returned (.bool true) ∧ Below w.heap.size w w' := by
  obtain ⟨n, hn⟩ : ∃ n, n = st.size := ⟨_, rfl⟩
  have hsz : st.size = n := hn.symm
  by_cases hlong : 20000 < n
  · have HL := Lib.hid (all_long st (by omega) w0 w)
    have hn9 : n ≤ 9223372036854775807 := by unfold maxLen at w0; omega
    have HWK := Lib.hid (wakes_any w)
    clear hn w0
    have hd : decide ((20000 : Int) < (n : Int)) = true := decide_eq_true (by omega)
    go_enter Try.func4, Try.ntmps4
    go_wp2_with fail
    refine HL.out.mono ?_
    rintro e w1 ⟨rfl, hw1⟩
    rw [hw1]
    clear hw1 w1
    go_wp2_with fail
    refine HWK.out.mono ?_
    rintro e w1 ⟨rfl, hb⟩
    have HB := Lib.hid hb
    clear hb
    go_wp2_with fail
    go_ret
    exact ⟨rfl, HB.out⟩
  · obtain ⟨s, hs⟩ : ∃ s : List UInt8, st = ⟨s.toArray⟩ := ⟨st.data.toList, by cases st; rfl⟩
    have hsn : s.length = n := by rw [hn, hs]; rfl
    have HA := Lib.hid (fun W => all_any s (by omega) W)
    have HRA := Lib.hid (fun W => refAll_any s (by omega) W)
    have hlen := srcL_len s
    rw [← hs] at HA HRA
    obtain ⟨l, q, er, hR⟩ : ∃ l q er, srcL s = (l, q, er) := ⟨_, _, _, rfl⟩
    rw [hR] at HA HRA hlen
    unfold AllPost at HA HRA
    dsimp only at HA HRA hlen
    obtain ⟨m, hm⟩ : ∃ m, m = l.length := ⟨_, rfl⟩
    rw [← hm] at HA HRA hlen
    have hmn : m ≤ 20000 := by omega
    have HM := Lib.hid hm
    have HWK := Lib.hid (fun W => wakes_any W)
    clear hR hs hsn hlen hm hn w0
    go_enter Try.func4, Try.ntmps4
    go_wp2_with fail
    refine (HA.out w).mono ?_
    rintro e w1 ⟨A, c, rfl, ho1, hb1⟩
    have HO1 := Lib.hid ho1
    have HB1 := Lib.hid hb1
    clear ho1 hb1
    go_wp2_with fail
    refine (HRA.out w1).mono ?_
    rintro e w2 ⟨A2, c2, rfl, ho2, hb2⟩
    have HO2 := Lib.hid ho2
    have HB2 := Lib.hid hb2
    have HO1b := Lib.hid (own_below HO1.out hb2)
    have hlen : (l.map gk).length = m := by rw [List.length_map]; exact HM.out.symm
    have HLEN := Lib.hid hlen
    have HAL := Lib.hid (alike_same A A2 c c2 m (l.map gk) w2 (own_rd4 (own_below HO1.out hb2) HM.out) (own_rd4 ho2 HM.out) hlen (by omega))
    clear ho2 hb2 hlen
    go_wp2_with fail
    refine HAL.out.mono ?_
    rintro e w3 ⟨rfl, q3, hw3⟩
    rw [hw3]
    clear hw3 w3
    have HB3 : Hid (Below w.heap.size w (w2.drewN q3)) := below_drewN (HB1.out.trans (HB2.out.mono HB1.out.size)) q3
    have HRD : Hid (Rd4 (w2.drewN q3) A2 (l.map gk)) := (own_rd4 HO2.out HM.out).drewN q3
    have HTH : Hid (∀ g o, A = some ⟨g, o, none⟩ → o = 0 ∧ (w2.drewN q3).there g 0 (m * 4)) := fun g o h => by
      have h1 := HO1b.out
      rw [h] at h1
      exact own_there h1
    have HAP : Hid (∀ g o, A = some ⟨g, o, none⟩ → w.heap.size ≤ g ∧ ∀ x, A2 = some x → g ≠ x.block) := fun g o h => by
      have h1 := HO1.out
      rw [h] at h1
      have h2 := World.ownsRow.lt h1 g rfl
      refine ⟨h2.1, fun x hx he => ?_⟩
      have h3 := HO2.out
      rw [hx] at h3
      have h4 := (World.ownsRow.lt h3 x.block rfl).1
      omega
    have HSZ : Hid (w1.heap.size ≤ (w2.drewN q3).heap.size ∧ (∀ x, A2 = some x → x.block < (w2.drewN q3).heap.size)) := ⟨HB2.out.size, fun x hx => by
      have h3 := HO2.out
      rw [hx] at h3
      exact (World.ownsRow.lt h3 x.block rfl).2⟩
    have HFORM : Hid (0 < m → ∃ g, A = some ⟨g, 0, none⟩) := fun h => by
      obtain ⟨g, cap, hv, _⟩ := HO1.out.form h
      exact ⟨g, by injection hv⟩
    generalize w2.drewN q3 = w3 at *
    clear HO1 HO1b HO2 HB2 HB1 HAL
    go_wp2_with fail
    go_loopw [12] (fun s12 wr => ∃ k : Nat, s12 = .int .i64 k ∧ k ≤ m ∧ Below w.heap.size w wr ∧ Rd4 wr A2 (l.map gk) ∧ w3.heap.size ≤ wr.heap.size ∧ (∀ g o, A = some ⟨g, o, none⟩ → wr.there g 0 (m * 4))) (fun s12 _ => m - (intOf s12).toNat)
    case atStart => exact ⟨0, rfl, by omega, HB3.out, HRD.out, Nat.le_refl _, fun g o h => (HTH.out g o h).2⟩
    case round =>
      obtain ⟨k, rfl, hk, hb, hrd, hsz3, hth⟩ := hrel
      have HB := Lib.hid hb
      have HR := Lib.hid hrd
      have HT := Lib.hid hth
      clear hb hrd hth
      by_cases hlt : k < m
      · obtain ⟨g, rfl⟩ := HFORM.out (by omega)
        obtain ⟨hg1, hg2⟩ := HAP.out g 0 rfl
        have HG := Lib.hid (And.intro hg1 hg2)
        have HTG : Hid (wr.there g (k * 4) 4) := fun j hj => by
          have h := HT.out g 0 rfl (k * 4 + j) (by omega)
          rw [show 0 + (k * 4 + j) = k * 4 + j by omega] at h
          exact h
        have hk0 : (0 : Int) ≤ (k : Int) := by omega
        have hkm : (k : Int) < (m : Int) := by omega
        clear hg1 hg2
        go_wp2_with (refine wpList_store_mid rfl 32 (.tmp 69) (.tmp 68) rfl g (k * 4) #[.int .u8 9, .string ⟨#[]⟩, .int .i64 0, .int .i64 0] ?_ ?_ ?_ (by kernel_rfl) (by kernel_rfl) ?_)
        · rfl
        · rfl
        · exact HTG.out
        go_roundw
        case rel =>
          refine ⟨k + 1, by go_num, by omega, below_setCells HG.out.1 _ _ HB.out, HR.out.keep (fun x hx p hp => World.cell?_setCells_out _ _ _ _ _ (fun hb _ => absurd (hb.symm.trans hp) (HG.out.2 x hx))), ?_, fun g' o' h => ?_⟩
          · exact Nat.le_trans hsz3 (size_setCells g _ _ _)
          · exact World.there_setCells (HT.out g' o' h) _ _ _
        case measure => simp [intOf]; omega
      · go_wp2_with fail
        refine (HA.out wr).mono ?_
        rintro e w4 ⟨A3, c3, rfl, ho3, hb3⟩
        have HB4 := Lib.hid (HB.out.trans (hb3.mono HB.out.size))
        have HR4 : Hid (Rd4 w4 A2 (l.map gk)) := HR.out.keep fun x hx p hp => hb3.cell (by rw [hp]; have := HSZ.out.2 x hx; omega)
        have HAL := Lib.hid (alike_same A3 A2 c3 c2 m (l.map gk) w4 (own_rd4 ho3 HM.out) HR4.out HLEN.out (by omega))
        clear ho3 hb3
        go_wp2_with fail
        refine HAL.out.mono ?_
        rintro e w5 ⟨rfl, q5, hw5⟩
        rw [hw5]
        clear hw5 w5
        go_wp2_with fail
        refine (HWK.out _).mono ?_
        rintro e w6 ⟨rfl, hb6⟩
        have HB6 := Lib.hid ((below_drewN HB4.out q5).trans (hb6.mono HB4.out.size))
        clear hb6
        go_wp2_with fail
        go_ret
        exact ⟨rfl, HB6.out⟩
end Go.Proofs.Ytlfkiaphmifelaa
