/- Contract of token's right. -/
import Derived.Outline
import Derived.Deep.DeepCutAuto
import Derived.Deep.MidRow
import Derived.Test.YtlfkiaphmifelaaDoorSpe
namespace Go.Proofs.YtlfkiaphmifelaaDoor
open Go.RowKit

set_option maxRecDepth 100000 in
set_option maxHeartbeats 8000000 in
theorem right_any (x : Tz) (w : World) (hx : TzOk x) : Calls Tryd.prog 11 #[.agg (zcell x).toArray] w fun e w' => e = .returned (.bool (rightB x)) ∧ Below w.heap.size w w' := by
  obtain ⟨R, hR⟩ : ∃ R, R = rightB x := ⟨_, rfl⟩
  have HR := Lib.hid hR
  rw [← hR]
  clear hR
  obtain ⟨kd, st, iv, pl⟩ := x
  dsimp only [zcell]
  have hk9 := hx.k
  have ht := hx.t
  dsimp only at hk9 ht
  clear hx
  have H1 : Hid (Below w.heap.size w (w.alloc (.cells #[.int .u8 (kd : Nat), .string st, .int .i64 iv, .int .i64 pl] 33)) ∧ Blk (w.alloc (.cells #[.int .u8 (kd : Nat), .string st, .int .i64 iv, .int .i64 pl] 33)) w.heap.size 33 #[.int .u8 (kd : Nat), .string st, .int .i64 iv, .int .i64 pl]) := Lib.hid ⟨(Below.refl _ _).alloc (Nat.le_refl _) _, Blk.new _ _ _⟩
  go_enter Tryd.func11, Tryd.ntmps11
  go_upto_region 1 with fail
  generalize w.alloc (.cells #[.int .u8 (kd : Nat), .string st, .int .i64 iv, .int .i64 pl] 33) = w1 at *
  have c0 : w1.cell? ⟨w.heap.size, 0, none⟩ = some (.int .u8 (kd : Nat)) := H1.out.2.cell 0
  have c3 : w1.cell? ⟨w.heap.size, 3, none⟩ = some (.int .i64 pl) := H1.out.2.cell 3
  have HB0 : Hid (Blk (w1.alloc (.cells #[.int .u8 0, .string ⟨#[]⟩, .int .i64 0, .int .i64 0] 33)) w1.heap.size 33 #[.int .u8 0, .string ⟨#[]⟩, .int .i64 0, .int .i64 0]) := Lib.hid (Blk.new w1 _ _)
  have H2 : Hid (Below w1.heap.size w1 (w1.alloc (.cells #[.int .u8 (kd : Nat), .string ⟨#[]⟩, .int .i64 0, .int .i64 pl] 33)) ∧ Blk (w1.alloc (.cells #[.int .u8 (kd : Nat), .string ⟨#[]⟩, .int .i64 0, .int .i64 pl] 33)) w1.heap.size 33 #[.int .u8 (kd : Nat), .string ⟨#[]⟩, .int .i64 0, .int .i64 pl]) := Lib.hid ⟨(Below.refl _ _).alloc (Nat.le_refl _) _, Blk.new _ _ _⟩
  go_upto_region 2 with (first | (refine wpList_store_row rfl 33 (.tmp 3) (.tmp 9) rfl w1.heap.size #[.int .u8 (kd : Nat), .string ⟨#[]⟩, .int .i64 0, .int .i64 pl] rfl rfl 33 #[.int .u8 0, .string ⟨#[]⟩, .int .i64 0, .int .i64 0] HB0.out (by kernel_rfl) rfl (by kernel_rfl) ?_; rw [World.setRow_alloc_new]) | fail)
  have HS1 : Hid (w.heap.size ≤ w1.heap.size ∧ w.heap.size < w1.heap.size) := Lib.hid ⟨H1.out.1.size, H1.out.2.lt⟩
  generalize hb3 : w1.heap.size = b3 at *
  generalize w1.alloc (.cells #[.int .u8 (kd : Nat), .string ⟨#[]⟩, .int .i64 0, .int .i64 pl] 33) = w2 at *
  obtain ⟨b1, hb1⟩ : ∃ b, b = w.heap.size := ⟨_, rfl⟩
  have HW2 : Hid (Below w.heap.size w w2 ∧ Blk w2 b1 33 #[.int .u8 (kd : Nat), .string st, .int .i64 iv, .int .i64 pl] ∧ Blk w2 b3 33 #[.int .u8 (kd : Nat), .string ⟨#[]⟩, .int .i64 0, .int .i64 pl]) := Lib.hid ⟨H1.out.1.trans (H2.out.1.mono HS1.out.1), by rw [hb1]; exact H1.out.2.below (by rw [hb3]; exact H2.out.1) H1.out.2.lt, H2.out.2⟩
  have HN : Hid (b3 ≠ b1 ∧ w.heap.size ≤ b3) := Lib.hid ⟨by have := HS1.out.2; omega, HS1.out.1⟩
  have HG := Lib.hid hb1
  rw [← hb1]
  clear hb1 c0 c3 HB0 H1 H2 HS1 hb3
  have k0 : w2.cell? ⟨b1, 0, none⟩ = some (.int .u8 (kd : Nat)) := HW2.out.2.1.cell 0
  by_cases hk1 : kd = 1
  · have hk := hk1
    have m1 : ((kd : Int) == 1) = true := by simp [hk]
    have d1 : w2.cell? ⟨b1, 1, none⟩ = some (.string st) := HW2.out.2.1.cell 1
    have f1 : w2.frozen? ⟨b3, 1, none⟩ = false := HW2.out.2.2.frozen 1
    have g1 : w2.cell? ⟨b3, 1, none⟩ = some (.string ⟨#[]⟩) := HW2.out.2.2.cell 1
    have HW3 : Hid (Below w.heap.size w (w2.setCell ⟨b3, 1, none⟩ (.string st)) ∧ Blk (w2.setCell ⟨b3, 1, none⟩ (.string st)) b1 33 #[.int .u8 (kd : Nat), .string st, .int .i64 iv, .int .i64 pl] ∧ Blk (w2.setCell ⟨b3, 1, none⟩ (.string st)) b3 33 #[.int .u8 (kd : Nat), .string st, .int .i64 0, .int .i64 pl]) := Lib.hid ⟨HW2.out.1.setCell (p := ⟨b3, 1, none⟩) HN.out.2 _, Blk.chg HW2.out.2.1 (Chg.setCell (T := fun b => b = b3) (Chg.refl _ _) (p := ⟨b3, 1, none⟩) rfl _) (fun e => HN.out.1 e.symm), by
      have h1 := HW2.out.2.2.set_ 1 (.string st)
      simpa using h1⟩
    go_upto_region 6 with fail
    generalize w2.setCell ⟨b3, 1, none⟩ (.string st) = w3 at *
    clear d1 f1 g1 k0
    have k0 : w3.cell? ⟨b1, 0, none⟩ = some (.int .u8 (kd : Nat)) := HW3.out.2.1.cell 0
    have k1 : w3.cell? ⟨b1, 1, none⟩ = some (.string st) := HW3.out.2.1.cell 1
    have k2 : w3.cell? ⟨b1, 2, none⟩ = some (.int .i64 iv) := HW3.out.2.1.cell 2
    have k3 : w3.cell? ⟨b1, 3, none⟩ = some (.int .i64 pl) := HW3.out.2.1.cell 3
    have l0 : w3.cell? ⟨b3, 0, none⟩ = some (.int .u8 (kd : Nat)) := HW3.out.2.2.cell 0
    have l1 : w3.cell? ⟨b3, 1, none⟩ = some (.string st) := HW3.out.2.2.cell 1
    have l2 : w3.cell? ⟨b3, 2, none⟩ = some (.int .i64 0) := HW3.out.2.2.cell 2
    have l3 : w3.cell? ⟨b3, 3, none⟩ = some (.int .i64 pl) := HW3.out.2.2.cell 3
    obtain ⟨s, hs⟩ : ∃ s, s = st.data.toList := ⟨_, rfl⟩
    have HRK : Hid (R = (wordOk s && decide (iv = 0))) := Lib.hid (by rw [HR.out]; unfold rightB Tz.tx; dsimp only; rw [hk, hs]; rfl)
    have HST : Hid (st = ⟨s.toArray⟩) := Lib.hid (by rw [hs])
    obtain ⟨n, hn⟩ : ∃ n, n = st.size := ⟨_, rfl⟩
    have hsz : st.size = n := hn.symm
    have HN2 : Hid (s.length = n) := Lib.hid (by rw [hs, hn, Array.length_toList]; rfl)
    have HNE : Hid (n ≠ 0 → (st.toList == []) = false) := Lib.hid (fun h => by
      rw [beq_eq_false_iff_ne]
      intro h2
      rw [ByteArray.toList_eq, ← hs] at h2
      have := HN2.out
      rw [h2] at this
      exact h this.symm)
    have HEQ : Hid (n = 0 → (st.toList == []) = true) := Lib.hid (fun h => by
      rw [beq_iff_eq, ByteArray.toList_eq, ← hs]
      exact List.eq_nil_of_length_eq_zero (by have := HN2.out; omega))
    clear hn hs
    rw [hsz] at ht
    by_cases hn0 : n = 0
    · have e0 := HEQ.out hn0
      have HF : Hid (R = false) := Lib.hid (by rw [HRK.out, List.eq_nil_of_length_eq_zero (l := s) (by have := HN2.out; omega)]; rfl)
      clear hn0
      go_wp2_with fail
      go_ret
      exact ⟨ret_bool (by rw [HF.out]), HW3.out.1⟩
    have e0 := HNE.out hn0
    have h0s : 0 < s.length := by have := HN2.out; omega
    obtain ⟨c, r, hcr⟩ : ∃ c r, s = c :: r := by
      cases s with
      | nil => simp at h0s
      | cons c r => exact ⟨c, r, rfl⟩
    have HWD : Hid (wordOk s = (decide (s.length ≤ 24) && lowB c && s.all innB)) := Lib.hid (by rw [hcr]; rfl)
    by_cases h24 : 24 < n
    · have dl : decide ((n : Int) > 24) = true := decide_eq_true (by omega)
      have dl' : decide (24 < n) = true := decide_eq_true h24
      have HF : Hid (R = false) := Lib.hid (by rw [HRK.out, HWD.out, decide_eq_false (by have := HN2.out; omega)]; rfl)
      clear hcr h0s hn0
      go_wp2_with fail
      go_ret
      exact ⟨ret_bool (by rw [HF.out]), HW3.out.1⟩
    have dl : decide ((n : Int) > 24) = false := decide_eq_false (by omega)
    have dl' : decide (24 < n) = false := decide_eq_false h24
    have h0 : 0 < st.size := by omega
    have hg0 : st[0] = c := by
      rw [st_get HST.out h0 h0s]
      simp [hcr]
    have HWD2 : Hid (R = (lowB c && s.all innB && decide (iv = 0))) := Lib.hid (by rw [HRK.out, HWD.out, decide_eq_true (by have := HN2.out; omega), Bool.true_and])
    have n0 : (0 : Int) < (n : Int) := by omega
    clear hcr h0s HWD
    go_wp2_with fail
    refine (letter_any c w3).mono ?_
    rintro e w4 ⟨rfl, hw4⟩
    subst hw4
    cases hlow : lowB c
    · have HF : Hid (R = false) := Lib.hid (by rw [HWD2.out, hlow]; rfl)
      clear hlow
      go_wp2_with fail
      go_ret
      exact ⟨ret_bool (by rw [HF.out]), HW3.out.1⟩
    have HF : Hid (R = (s.all innB && decide (iv = 0))) := Lib.hid (by rw [HWD2.out, hlow]; rfl)
    clear hlow hg0 h0
    go_wp2_with fail
    go_loopw [36] (fun s36 wr => ∃ k : Nat, s36 = .int .i64 (k : Nat) ∧ k ≤ n ∧ (s.take k).all innB = true ∧ wr = w4) (fun s36 _ => n - (intOf s36).toNat)
    case atStart => exact ⟨0, rfl, by omega, by simp, rfl⟩
    case round =>
      obtain ⟨k, rfl, hkn, hall, rfl⟩ := hrel
      have HAL := Lib.hid hall
      clear hall
      by_cases hlt : k < n
      · have di : decide ((k : Int) < (n : Int)) = true := decide_eq_true (by omega)
        have hks : k < s.length := by have := HN2.out; omega
        obtain ⟨ch, hch⟩ : ∃ c, c = s[k] := ⟨_, rfl⟩
        have hkst : k < st.size := by omega
        have hg : st[k] = ch := by rw [hch]; exact st_get HST.out hkst hks
        have HTK : Hid (s.take (k + 1) = s.take k ++ [ch]) := Lib.hid (by rw [hch]; exact List.take_succ_eq_append_getElem hks)
        have HIN : Hid (innB ch = false → R = false) := Lib.hid (fun h => by
          rw [HF.out]
          have : s.all innB = false := by
            rw [List.all_eq_false]
            exact ⟨ch, by rw [hch]; exact List.getElem_mem hks, by rw [h]; decide⟩
          rw [this]; rfl)
        clear hch hks
        have k0' : (0 : Int) ≤ (k : Int) := by omega
        have k1' : (k : Int) < (n : Int) := by omega
        go_wp2_with fail
        refine (inner_any ch wr).mono ?_
        rintro e w5 ⟨rfl, hw5⟩
        subst hw5
        cases hin : innB ch
        · have HF2 : Hid (R = false) := Lib.hid (HIN.out hin)
          clear hin
          go_wp2_with fail
          go_ret
          exact ⟨ret_bool (by rw [HF2.out]), HW3.out.1⟩
        · have HA2 : Hid ((s.take (k + 1)).all innB = true) := Lib.hid (by rw [HTK.out, List.all_append, HAL.out]; simp [hin])
          clear hin
          go_wp2_with fail
          go_roundw
          case rel => exact ⟨k + 1, by go_num, by omega, HA2.out, by trivial⟩
          case measure => simp [intOf]; omega
      · have di : decide ((k : Int) < (n : Int)) = false := decide_eq_false (by omega)
        have HA2 : Hid (R = decide (iv = 0)) := Lib.hid (by
          have := HAL.out
          rw [List.take_of_length_le (by have := HN2.out; omega)] at this
          rw [HF.out, this]; rfl)
        by_cases hiv : iv = 0
        · have e1 : ((0 : Int) == iv) = true := by simp [hiv]
          go_wp2_with (first | (refine wpList_load_row rfl 33 (.tmp 3) rfl b3 rfl 33 #[.int .u8 (kd : Nat), .string st, .int .i64 0, .int .i64 pl] (0, 0) _ HW3.out.2.2 Tryd.underlying33 rfl (by kernel_rfl) ?_) | (refine wpList_load_row rfl 33 (.tmp 1) rfl b1 rfl 33 #[.int .u8 (kd : Nat), .string st, .int .i64 iv, .int .i64 pl] (0, 0) _ HW3.out.2.1 Tryd.underlying33 rfl (by kernel_rfl) ?_) | fail)
          go_ret
          exact ⟨ret_bool (by rw [HA2.out]; simp [hiv]), HW3.out.1⟩
        · have e1 : ((0 : Int) == iv) = false := by simp; omega
          go_wp2_with (first | (refine wpList_load_row rfl 33 (.tmp 3) rfl b3 rfl 33 #[.int .u8 (kd : Nat), .string st, .int .i64 0, .int .i64 pl] (0, 0) _ HW3.out.2.2 Tryd.underlying33 rfl (by kernel_rfl) ?_) | (refine wpList_load_row rfl 33 (.tmp 1) rfl b1 rfl 33 #[.int .u8 (kd : Nat), .string st, .int .i64 iv, .int .i64 pl] (0, 0) _ HW3.out.2.1 Tryd.underlying33 rfl (by kernel_rfl) ?_) | fail)
          go_ret
          exact ⟨ret_bool (by rw [HA2.out]; simp [hiv]), HW3.out.1⟩
  by_cases hk2 : kd = 2
  · have hk := hk2
    have m1 : ((kd : Int) == 1) = false := by simp; omega
    have m2 : ((kd : Int) == 2) = true := by simp [hk]
    have d1 : w2.cell? ⟨b1, 2, none⟩ = some (.int .i64 iv) := HW2.out.2.1.cell 2
    have f1 : w2.frozen? ⟨b3, 2, none⟩ = false := HW2.out.2.2.frozen 2
    have g1 : w2.cell? ⟨b3, 2, none⟩ = some (.int .i64 0) := HW2.out.2.2.cell 2
    have HW3 : Hid (Below w.heap.size w (w2.setCell ⟨b3, 2, none⟩ (.int .i64 iv)) ∧ Blk (w2.setCell ⟨b3, 2, none⟩ (.int .i64 iv)) b1 33 #[.int .u8 (kd : Nat), .string st, .int .i64 iv, .int .i64 pl] ∧ Blk (w2.setCell ⟨b3, 2, none⟩ (.int .i64 iv)) b3 33 #[.int .u8 (kd : Nat), .string ⟨#[]⟩, .int .i64 iv, .int .i64 pl]) := Lib.hid ⟨HW2.out.1.setCell (p := ⟨b3, 2, none⟩) HN.out.2 _, Blk.chg HW2.out.2.1 (Chg.setCell (T := fun b => b = b3) (Chg.refl _ _) (p := ⟨b3, 2, none⟩) rfl _) (fun e => HN.out.1 e.symm), by
      have h1 := HW2.out.2.2.set_ 2 (.int .i64 iv)
      simpa using h1⟩
    go_upto_region 16 with fail
    generalize w2.setCell ⟨b3, 2, none⟩ (.int .i64 iv) = w3 at *
    clear d1 f1 g1 k0
    have k0 : w3.cell? ⟨b1, 0, none⟩ = some (.int .u8 (kd : Nat)) := HW3.out.2.1.cell 0
    have k1 : w3.cell? ⟨b1, 1, none⟩ = some (.string st) := HW3.out.2.1.cell 1
    have k2 : w3.cell? ⟨b1, 2, none⟩ = some (.int .i64 iv) := HW3.out.2.1.cell 2
    have k3 : w3.cell? ⟨b1, 3, none⟩ = some (.int .i64 pl) := HW3.out.2.1.cell 3
    have l0 : w3.cell? ⟨b3, 0, none⟩ = some (.int .u8 (kd : Nat)) := HW3.out.2.2.cell 0
    have l1 : w3.cell? ⟨b3, 1, none⟩ = some (.string ⟨#[]⟩) := HW3.out.2.2.cell 1
    have l2 : w3.cell? ⟨b3, 2, none⟩ = some (.int .i64 iv) := HW3.out.2.2.cell 2
    have l3 : w3.cell? ⟨b3, 3, none⟩ = some (.int .i64 pl) := HW3.out.2.2.cell 3
    have HRK : Hid (R = (decide (st.data.toList = []) && decide (0 ≤ iv))) := Lib.hid (by rw [HR.out]; unfold rightB Tz.tx; dsimp only; rw [hk]; rfl)
    by_cases hl : iv < 0
    · have dl : decide (iv < 0) = true := decide_eq_true hl
      go_wp2_with fail
      go_ret
      exact ⟨ret_bool (by rw [HRK.out]; simp; omega), HW3.out.1⟩
    · have dl : decide (iv < 0) = false := decide_eq_false hl
      by_cases hst : st = ⟨#[]⟩
      · have HE : Hid (R = true) := Lib.hid (by rw [HRK.out, hst]; simp; omega)
        subst hst
        clear hl
        go_wp2_with (first | (refine wpList_load_row rfl 33 (.tmp 3) rfl b3 rfl 33 #[.int .u8 (kd : Nat), .string ⟨#[]⟩, .int .i64 iv, .int .i64 pl] (0, 0) _ HW3.out.2.2 Tryd.underlying33 rfl (by kernel_rfl) ?_) | (refine wpList_load_row rfl 33 (.tmp 1) rfl b1 rfl 33 #[.int .u8 (kd : Nat), .string ⟨#[]⟩, .int .i64 iv, .int .i64 pl] (0, 0) _ HW3.out.2.1 Tryd.underlying33 rfl (by kernel_rfl) ?_) | fail)
        go_ret
        exact ⟨ret_bool (by rw [HE.out]), HW3.out.1⟩
      · have e1 : (([] : List UInt8) == st.toList) = false := by
          rw [beq_eq_false_iff_ne]
          exact fun h => hst (bytes_of_list (by rw [← h, ByteArray.toList_eq]))
        have HE : Hid (R = false) := Lib.hid (by rw [HRK.out, decide_eq_false (fun h => hst (bytes_of_list (by rw [ByteArray.toList_eq, ByteArray.toList_eq, h])))]; rfl)
        clear hst
        go_wp2_with (first | (refine wpList_load_row rfl 33 (.tmp 3) rfl b3 rfl 33 #[.int .u8 (kd : Nat), .string ⟨#[]⟩, .int .i64 iv, .int .i64 pl] (0, 0) _ HW3.out.2.2 Tryd.underlying33 rfl (by kernel_rfl) ?_) | (refine wpList_load_row rfl 33 (.tmp 1) rfl b1 rfl 33 #[.int .u8 (kd : Nat), .string st, .int .i64 iv, .int .i64 pl] (0, 0) _ HW3.out.2.1 Tryd.underlying33 rfl (by kernel_rfl) ?_) | fail)
        go_ret
        exact ⟨ret_bool (by rw [HE.out]), HW3.out.1⟩
  by_cases hk3 : kd = 3
  · have hk := hk3
    have m1 : ((kd : Int) == 1) = false := by simp; omega
    have m2 : ((kd : Int) == 2) = false := by simp; omega
    have m3 : ((kd : Int) == 3) = true := by simp [hk]
    have d1 : w2.cell? ⟨b1, 1, none⟩ = some (.string st) := HW2.out.2.1.cell 1
    have f1 : w2.frozen? ⟨b3, 1, none⟩ = false := HW2.out.2.2.frozen 1
    have g1 : w2.cell? ⟨b3, 1, none⟩ = some (.string ⟨#[]⟩) := HW2.out.2.2.cell 1
    have HW3 : Hid (Below w.heap.size w (w2.setCell ⟨b3, 1, none⟩ (.string st)) ∧ Blk (w2.setCell ⟨b3, 1, none⟩ (.string st)) b1 33 #[.int .u8 (kd : Nat), .string st, .int .i64 iv, .int .i64 pl] ∧ Blk (w2.setCell ⟨b3, 1, none⟩ (.string st)) b3 33 #[.int .u8 (kd : Nat), .string st, .int .i64 0, .int .i64 pl]) := Lib.hid ⟨HW2.out.1.setCell (p := ⟨b3, 1, none⟩) HN.out.2 _, Blk.chg HW2.out.2.1 (Chg.setCell (T := fun b => b = b3) (Chg.refl _ _) (p := ⟨b3, 1, none⟩) rfl _) (fun e => HN.out.1 e.symm), by
      have h1 := HW2.out.2.2.set_ 1 (.string st)
      simpa using h1⟩
    go_upto_region 20 with fail
    generalize w2.setCell ⟨b3, 1, none⟩ (.string st) = w3 at *
    clear d1 f1 g1 k0
    have k0 : w3.cell? ⟨b1, 0, none⟩ = some (.int .u8 (kd : Nat)) := HW3.out.2.1.cell 0
    have k1 : w3.cell? ⟨b1, 1, none⟩ = some (.string st) := HW3.out.2.1.cell 1
    have k2 : w3.cell? ⟨b1, 2, none⟩ = some (.int .i64 iv) := HW3.out.2.1.cell 2
    have k3 : w3.cell? ⟨b1, 3, none⟩ = some (.int .i64 pl) := HW3.out.2.1.cell 3
    have l0 : w3.cell? ⟨b3, 0, none⟩ = some (.int .u8 (kd : Nat)) := HW3.out.2.2.cell 0
    have l1 : w3.cell? ⟨b3, 1, none⟩ = some (.string st) := HW3.out.2.2.cell 1
    have l2 : w3.cell? ⟨b3, 2, none⟩ = some (.int .i64 0) := HW3.out.2.2.cell 2
    have l3 : w3.cell? ⟨b3, 3, none⟩ = some (.int .i64 pl) := HW3.out.2.2.cell 3
    have HRK : Hid (R = (decide (st.data.toList.length ≤ 4095) && decide (iv = 0))) := Lib.hid (by rw [HR.out]; unfold rightB Tz.tx; dsimp only; rw [hk]; rfl)
    have hsz : st.data.toList.length = st.size := by rw [Array.length_toList]; rfl
    by_cases hl : 4095 < st.size
    · have dl : decide ((st.size : Int) > 4095) = true := decide_eq_true (by omega)
      have dl' : decide (4095 < st.size) = true := decide_eq_true hl
      go_wp2_with fail
      go_ret
      exact ⟨ret_bool (by rw [HRK.out]; simp; omega), HW3.out.1⟩
    · have dl : decide ((st.size : Int) > 4095) = false := decide_eq_false (by omega)
      have dl' : decide (4095 < st.size) = false := decide_eq_false hl
      by_cases hiv : iv = 0
      · have e1 : ((0 : Int) == iv) = true := by simp [hiv]
        go_wp2_with (first | (refine wpList_load_row rfl 33 (.tmp 3) rfl b3 rfl 33 #[.int .u8 (kd : Nat), .string st, .int .i64 0, .int .i64 pl] (0, 0) _ HW3.out.2.2 Tryd.underlying33 rfl (by kernel_rfl) ?_) | (refine wpList_load_row rfl 33 (.tmp 1) rfl b1 rfl 33 #[.int .u8 (kd : Nat), .string st, .int .i64 iv, .int .i64 pl] (0, 0) _ HW3.out.2.1 Tryd.underlying33 rfl (by kernel_rfl) ?_) | fail)
        go_ret
        exact ⟨ret_bool (by rw [HRK.out]; simp [hiv]; omega), HW3.out.1⟩
      · have e1 : ((0 : Int) == iv) = false := by simp; omega
        go_wp2_with (first | (refine wpList_load_row rfl 33 (.tmp 3) rfl b3 rfl 33 #[.int .u8 (kd : Nat), .string st, .int .i64 0, .int .i64 pl] (0, 0) _ HW3.out.2.2 Tryd.underlying33 rfl (by kernel_rfl) ?_) | (refine wpList_load_row rfl 33 (.tmp 1) rfl b1 rfl 33 #[.int .u8 (kd : Nat), .string st, .int .i64 iv, .int .i64 pl] (0, 0) _ HW3.out.2.1 Tryd.underlying33 rfl (by kernel_rfl) ?_) | fail)
        go_ret
        exact ⟨ret_bool (by rw [HRK.out]; simp [hiv]), HW3.out.1⟩
  by_cases hk4 : kd = 4
  · have hk := hk4
    have m1 : ((kd : Int) == 1) = false := by simp; omega
    have m2 : ((kd : Int) == 2) = false := by simp; omega
    have m3 : ((kd : Int) == 3) = false := by simp; omega
    have m4 : ((kd : Int) == 4) = true := by simp [hk]
    have d1 : w2.cell? ⟨b1, 1, none⟩ = some (.string st) := HW2.out.2.1.cell 1
    have f1 : w2.frozen? ⟨b3, 1, none⟩ = false := HW2.out.2.2.frozen 1
    have g1 : w2.cell? ⟨b3, 1, none⟩ = some (.string ⟨#[]⟩) := HW2.out.2.2.cell 1
    have HW3 : Hid (Below w.heap.size w (w2.setCell ⟨b3, 1, none⟩ (.string st)) ∧ Blk (w2.setCell ⟨b3, 1, none⟩ (.string st)) b1 33 #[.int .u8 (kd : Nat), .string st, .int .i64 iv, .int .i64 pl] ∧ Blk (w2.setCell ⟨b3, 1, none⟩ (.string st)) b3 33 #[.int .u8 (kd : Nat), .string st, .int .i64 0, .int .i64 pl]) := Lib.hid ⟨HW2.out.1.setCell (p := ⟨b3, 1, none⟩) HN.out.2 _, Blk.chg HW2.out.2.1 (Chg.setCell (T := fun b => b = b3) (Chg.refl _ _) (p := ⟨b3, 1, none⟩) rfl _) (fun e => HN.out.1 e.symm), by
      have h1 := HW2.out.2.2.set_ 1 (.string st)
      simpa using h1⟩
    go_upto_region 24 with fail
    generalize w2.setCell ⟨b3, 1, none⟩ (.string st) = w3 at *
    clear d1 f1 g1 k0
    have k0 : w3.cell? ⟨b1, 0, none⟩ = some (.int .u8 (kd : Nat)) := HW3.out.2.1.cell 0
    have k1 : w3.cell? ⟨b1, 1, none⟩ = some (.string st) := HW3.out.2.1.cell 1
    have k2 : w3.cell? ⟨b1, 2, none⟩ = some (.int .i64 iv) := HW3.out.2.1.cell 2
    have k3 : w3.cell? ⟨b1, 3, none⟩ = some (.int .i64 pl) := HW3.out.2.1.cell 3
    have l0 : w3.cell? ⟨b3, 0, none⟩ = some (.int .u8 (kd : Nat)) := HW3.out.2.2.cell 0
    have l1 : w3.cell? ⟨b3, 1, none⟩ = some (.string st) := HW3.out.2.2.cell 1
    have l2 : w3.cell? ⟨b3, 2, none⟩ = some (.int .i64 0) := HW3.out.2.2.cell 2
    have l3 : w3.cell? ⟨b3, 3, none⟩ = some (.int .i64 pl) := HW3.out.2.2.cell 3
    have HRK : Hid (R = (decide (st.data.toList ∈ sgn17) && decide (iv = 0))) := Lib.hid (by rw [HR.out]; unfold rightB Tz.tx; dsimp only; rw [hk]; rfl)
    by_cases hiv : iv = 0
    · have e1 : ((0 : Int) == iv) = true := by simp [hiv]
      cases e10 : (st.toList == [40])
      · cases e11 : (st.toList == [41])
        · cases e12 : (st.toList == [123])
          · cases e13 : (st.toList == [125])
            · cases e14 : (st.toList == [91])
              · cases e15 : (st.toList == [93])
                · cases e16 : (st.toList == [44])
                  · cases e17 : (st.toList == [61])
                    · cases e18 : (st.toList == [60])
                      · cases e19 : (st.toList == [43])
                        · cases e20 : (st.toList == [45])
                          · cases e21 : (st.toList == [42])
                            · cases e22 : (st.toList == [47])
                              · cases e23 : (st.toList == [37])
                                · cases e24 : (st.toList == [61, 61])
                                  · cases e25 : (st.toList == [33, 61])
                                    · cases e26 : (st.toList == [60, 61])
                                      · have hns : st.data.toList ∉ sgn17 := fun h => by
                                          rw [← ByteArray.toList_eq] at h
                                          have h2 : sgn17.contains st.toList = false := by simp only [sgn17, List.contains, List.elem, *]
                                          have h3 : sgn17.contains st.toList = true := by simpa using h
                                          rw [h3] at h2
                                          cases h2
                                        go_wp2_with fail
                                        go_ret
                                        exact ⟨ret_bool (by rw [HRK.out, decide_eq_false hns]; rfl), HW3.out.1⟩
                                      · have HIN : Hid (st.data.toList ∈ sgn17) := Lib.hid (by rw [← ByteArray.toList_eq, show st.toList = [60, 61] by simpa using e26]; decide)
                                        go_wp2_with (first | (refine wpList_load_row rfl 33 (.tmp 3) rfl b3 rfl 33 #[.int .u8 (kd : Nat), .string st, .int .i64 0, .int .i64 pl] (0, 0) _ HW3.out.2.2 Tryd.underlying33 rfl (by kernel_rfl) ?_) | (refine wpList_load_row rfl 33 (.tmp 1) rfl b1 rfl 33 #[.int .u8 (kd : Nat), .string st, .int .i64 iv, .int .i64 pl] (0, 0) _ HW3.out.2.1 Tryd.underlying33 rfl (by kernel_rfl) ?_) | fail)
                                        go_ret
                                        exact ⟨ret_bool (by rw [HRK.out, decide_eq_true HIN.out]; simp [hiv]), HW3.out.1⟩
                                    · have HIN : Hid (st.data.toList ∈ sgn17) := Lib.hid (by rw [← ByteArray.toList_eq, show st.toList = [33, 61] by simpa using e25]; decide)
                                      go_wp2_with (first | (refine wpList_load_row rfl 33 (.tmp 3) rfl b3 rfl 33 #[.int .u8 (kd : Nat), .string st, .int .i64 0, .int .i64 pl] (0, 0) _ HW3.out.2.2 Tryd.underlying33 rfl (by kernel_rfl) ?_) | (refine wpList_load_row rfl 33 (.tmp 1) rfl b1 rfl 33 #[.int .u8 (kd : Nat), .string st, .int .i64 iv, .int .i64 pl] (0, 0) _ HW3.out.2.1 Tryd.underlying33 rfl (by kernel_rfl) ?_) | fail)
                                      go_ret
                                      exact ⟨ret_bool (by rw [HRK.out, decide_eq_true HIN.out]; simp [hiv]), HW3.out.1⟩
                                  · have HIN : Hid (st.data.toList ∈ sgn17) := Lib.hid (by rw [← ByteArray.toList_eq, show st.toList = [61, 61] by simpa using e24]; decide)
                                    go_wp2_with (first | (refine wpList_load_row rfl 33 (.tmp 3) rfl b3 rfl 33 #[.int .u8 (kd : Nat), .string st, .int .i64 0, .int .i64 pl] (0, 0) _ HW3.out.2.2 Tryd.underlying33 rfl (by kernel_rfl) ?_) | (refine wpList_load_row rfl 33 (.tmp 1) rfl b1 rfl 33 #[.int .u8 (kd : Nat), .string st, .int .i64 iv, .int .i64 pl] (0, 0) _ HW3.out.2.1 Tryd.underlying33 rfl (by kernel_rfl) ?_) | fail)
                                    go_ret
                                    exact ⟨ret_bool (by rw [HRK.out, decide_eq_true HIN.out]; simp [hiv]), HW3.out.1⟩
                                · have HIN : Hid (st.data.toList ∈ sgn17) := Lib.hid (by rw [← ByteArray.toList_eq, show st.toList = [37] by simpa using e23]; decide)
                                  go_wp2_with (first | (refine wpList_load_row rfl 33 (.tmp 3) rfl b3 rfl 33 #[.int .u8 (kd : Nat), .string st, .int .i64 0, .int .i64 pl] (0, 0) _ HW3.out.2.2 Tryd.underlying33 rfl (by kernel_rfl) ?_) | (refine wpList_load_row rfl 33 (.tmp 1) rfl b1 rfl 33 #[.int .u8 (kd : Nat), .string st, .int .i64 iv, .int .i64 pl] (0, 0) _ HW3.out.2.1 Tryd.underlying33 rfl (by kernel_rfl) ?_) | fail)
                                  go_ret
                                  exact ⟨ret_bool (by rw [HRK.out, decide_eq_true HIN.out]; simp [hiv]), HW3.out.1⟩
                              · have HIN : Hid (st.data.toList ∈ sgn17) := Lib.hid (by rw [← ByteArray.toList_eq, show st.toList = [47] by simpa using e22]; decide)
                                go_wp2_with (first | (refine wpList_load_row rfl 33 (.tmp 3) rfl b3 rfl 33 #[.int .u8 (kd : Nat), .string st, .int .i64 0, .int .i64 pl] (0, 0) _ HW3.out.2.2 Tryd.underlying33 rfl (by kernel_rfl) ?_) | (refine wpList_load_row rfl 33 (.tmp 1) rfl b1 rfl 33 #[.int .u8 (kd : Nat), .string st, .int .i64 iv, .int .i64 pl] (0, 0) _ HW3.out.2.1 Tryd.underlying33 rfl (by kernel_rfl) ?_) | fail)
                                go_ret
                                exact ⟨ret_bool (by rw [HRK.out, decide_eq_true HIN.out]; simp [hiv]), HW3.out.1⟩
                            · have HIN : Hid (st.data.toList ∈ sgn17) := Lib.hid (by rw [← ByteArray.toList_eq, show st.toList = [42] by simpa using e21]; decide)
                              go_wp2_with (first | (refine wpList_load_row rfl 33 (.tmp 3) rfl b3 rfl 33 #[.int .u8 (kd : Nat), .string st, .int .i64 0, .int .i64 pl] (0, 0) _ HW3.out.2.2 Tryd.underlying33 rfl (by kernel_rfl) ?_) | (refine wpList_load_row rfl 33 (.tmp 1) rfl b1 rfl 33 #[.int .u8 (kd : Nat), .string st, .int .i64 iv, .int .i64 pl] (0, 0) _ HW3.out.2.1 Tryd.underlying33 rfl (by kernel_rfl) ?_) | fail)
                              go_ret
                              exact ⟨ret_bool (by rw [HRK.out, decide_eq_true HIN.out]; simp [hiv]), HW3.out.1⟩
                          · have HIN : Hid (st.data.toList ∈ sgn17) := Lib.hid (by rw [← ByteArray.toList_eq, show st.toList = [45] by simpa using e20]; decide)
                            go_wp2_with (first | (refine wpList_load_row rfl 33 (.tmp 3) rfl b3 rfl 33 #[.int .u8 (kd : Nat), .string st, .int .i64 0, .int .i64 pl] (0, 0) _ HW3.out.2.2 Tryd.underlying33 rfl (by kernel_rfl) ?_) | (refine wpList_load_row rfl 33 (.tmp 1) rfl b1 rfl 33 #[.int .u8 (kd : Nat), .string st, .int .i64 iv, .int .i64 pl] (0, 0) _ HW3.out.2.1 Tryd.underlying33 rfl (by kernel_rfl) ?_) | fail)
                            go_ret
                            exact ⟨ret_bool (by rw [HRK.out, decide_eq_true HIN.out]; simp [hiv]), HW3.out.1⟩
                        · have HIN : Hid (st.data.toList ∈ sgn17) := Lib.hid (by rw [← ByteArray.toList_eq, show st.toList = [43] by simpa using e19]; decide)
                          go_wp2_with (first | (refine wpList_load_row rfl 33 (.tmp 3) rfl b3 rfl 33 #[.int .u8 (kd : Nat), .string st, .int .i64 0, .int .i64 pl] (0, 0) _ HW3.out.2.2 Tryd.underlying33 rfl (by kernel_rfl) ?_) | (refine wpList_load_row rfl 33 (.tmp 1) rfl b1 rfl 33 #[.int .u8 (kd : Nat), .string st, .int .i64 iv, .int .i64 pl] (0, 0) _ HW3.out.2.1 Tryd.underlying33 rfl (by kernel_rfl) ?_) | fail)
                          go_ret
                          exact ⟨ret_bool (by rw [HRK.out, decide_eq_true HIN.out]; simp [hiv]), HW3.out.1⟩
                      · have HIN : Hid (st.data.toList ∈ sgn17) := Lib.hid (by rw [← ByteArray.toList_eq, show st.toList = [60] by simpa using e18]; decide)
                        go_wp2_with (first | (refine wpList_load_row rfl 33 (.tmp 3) rfl b3 rfl 33 #[.int .u8 (kd : Nat), .string st, .int .i64 0, .int .i64 pl] (0, 0) _ HW3.out.2.2 Tryd.underlying33 rfl (by kernel_rfl) ?_) | (refine wpList_load_row rfl 33 (.tmp 1) rfl b1 rfl 33 #[.int .u8 (kd : Nat), .string st, .int .i64 iv, .int .i64 pl] (0, 0) _ HW3.out.2.1 Tryd.underlying33 rfl (by kernel_rfl) ?_) | fail)
                        go_ret
                        exact ⟨ret_bool (by rw [HRK.out, decide_eq_true HIN.out]; simp [hiv]), HW3.out.1⟩
                    · have HIN : Hid (st.data.toList ∈ sgn17) := Lib.hid (by rw [← ByteArray.toList_eq, show st.toList = [61] by simpa using e17]; decide)
                      go_wp2_with (first | (refine wpList_load_row rfl 33 (.tmp 3) rfl b3 rfl 33 #[.int .u8 (kd : Nat), .string st, .int .i64 0, .int .i64 pl] (0, 0) _ HW3.out.2.2 Tryd.underlying33 rfl (by kernel_rfl) ?_) | (refine wpList_load_row rfl 33 (.tmp 1) rfl b1 rfl 33 #[.int .u8 (kd : Nat), .string st, .int .i64 iv, .int .i64 pl] (0, 0) _ HW3.out.2.1 Tryd.underlying33 rfl (by kernel_rfl) ?_) | fail)
                      go_ret
                      exact ⟨ret_bool (by rw [HRK.out, decide_eq_true HIN.out]; simp [hiv]), HW3.out.1⟩
                  · have HIN : Hid (st.data.toList ∈ sgn17) := Lib.hid (by rw [← ByteArray.toList_eq, show st.toList = [44] by simpa using e16]; decide)
                    go_wp2_with (first | (refine wpList_load_row rfl 33 (.tmp 3) rfl b3 rfl 33 #[.int .u8 (kd : Nat), .string st, .int .i64 0, .int .i64 pl] (0, 0) _ HW3.out.2.2 Tryd.underlying33 rfl (by kernel_rfl) ?_) | (refine wpList_load_row rfl 33 (.tmp 1) rfl b1 rfl 33 #[.int .u8 (kd : Nat), .string st, .int .i64 iv, .int .i64 pl] (0, 0) _ HW3.out.2.1 Tryd.underlying33 rfl (by kernel_rfl) ?_) | fail)
                    go_ret
                    exact ⟨ret_bool (by rw [HRK.out, decide_eq_true HIN.out]; simp [hiv]), HW3.out.1⟩
                · have HIN : Hid (st.data.toList ∈ sgn17) := Lib.hid (by rw [← ByteArray.toList_eq, show st.toList = [93] by simpa using e15]; decide)
                  go_wp2_with (first | (refine wpList_load_row rfl 33 (.tmp 3) rfl b3 rfl 33 #[.int .u8 (kd : Nat), .string st, .int .i64 0, .int .i64 pl] (0, 0) _ HW3.out.2.2 Tryd.underlying33 rfl (by kernel_rfl) ?_) | (refine wpList_load_row rfl 33 (.tmp 1) rfl b1 rfl 33 #[.int .u8 (kd : Nat), .string st, .int .i64 iv, .int .i64 pl] (0, 0) _ HW3.out.2.1 Tryd.underlying33 rfl (by kernel_rfl) ?_) | fail)
                  go_ret
                  exact ⟨ret_bool (by rw [HRK.out, decide_eq_true HIN.out]; simp [hiv]), HW3.out.1⟩
              · have HIN : Hid (st.data.toList ∈ sgn17) := Lib.hid (by rw [← ByteArray.toList_eq, show st.toList = [91] by simpa using e14]; decide)
                go_wp2_with (first | (refine wpList_load_row rfl 33 (.tmp 3) rfl b3 rfl 33 #[.int .u8 (kd : Nat), .string st, .int .i64 0, .int .i64 pl] (0, 0) _ HW3.out.2.2 Tryd.underlying33 rfl (by kernel_rfl) ?_) | (refine wpList_load_row rfl 33 (.tmp 1) rfl b1 rfl 33 #[.int .u8 (kd : Nat), .string st, .int .i64 iv, .int .i64 pl] (0, 0) _ HW3.out.2.1 Tryd.underlying33 rfl (by kernel_rfl) ?_) | fail)
                go_ret
                exact ⟨ret_bool (by rw [HRK.out, decide_eq_true HIN.out]; simp [hiv]), HW3.out.1⟩
            · have HIN : Hid (st.data.toList ∈ sgn17) := Lib.hid (by rw [← ByteArray.toList_eq, show st.toList = [125] by simpa using e13]; decide)
              go_wp2_with (first | (refine wpList_load_row rfl 33 (.tmp 3) rfl b3 rfl 33 #[.int .u8 (kd : Nat), .string st, .int .i64 0, .int .i64 pl] (0, 0) _ HW3.out.2.2 Tryd.underlying33 rfl (by kernel_rfl) ?_) | (refine wpList_load_row rfl 33 (.tmp 1) rfl b1 rfl 33 #[.int .u8 (kd : Nat), .string st, .int .i64 iv, .int .i64 pl] (0, 0) _ HW3.out.2.1 Tryd.underlying33 rfl (by kernel_rfl) ?_) | fail)
              go_ret
              exact ⟨ret_bool (by rw [HRK.out, decide_eq_true HIN.out]; simp [hiv]), HW3.out.1⟩
          · have HIN : Hid (st.data.toList ∈ sgn17) := Lib.hid (by rw [← ByteArray.toList_eq, show st.toList = [123] by simpa using e12]; decide)
            go_wp2_with (first | (refine wpList_load_row rfl 33 (.tmp 3) rfl b3 rfl 33 #[.int .u8 (kd : Nat), .string st, .int .i64 0, .int .i64 pl] (0, 0) _ HW3.out.2.2 Tryd.underlying33 rfl (by kernel_rfl) ?_) | (refine wpList_load_row rfl 33 (.tmp 1) rfl b1 rfl 33 #[.int .u8 (kd : Nat), .string st, .int .i64 iv, .int .i64 pl] (0, 0) _ HW3.out.2.1 Tryd.underlying33 rfl (by kernel_rfl) ?_) | fail)
            go_ret
            exact ⟨ret_bool (by rw [HRK.out, decide_eq_true HIN.out]; simp [hiv]), HW3.out.1⟩
        · have HIN : Hid (st.data.toList ∈ sgn17) := Lib.hid (by rw [← ByteArray.toList_eq, show st.toList = [41] by simpa using e11]; decide)
          go_wp2_with (first | (refine wpList_load_row rfl 33 (.tmp 3) rfl b3 rfl 33 #[.int .u8 (kd : Nat), .string st, .int .i64 0, .int .i64 pl] (0, 0) _ HW3.out.2.2 Tryd.underlying33 rfl (by kernel_rfl) ?_) | (refine wpList_load_row rfl 33 (.tmp 1) rfl b1 rfl 33 #[.int .u8 (kd : Nat), .string st, .int .i64 iv, .int .i64 pl] (0, 0) _ HW3.out.2.1 Tryd.underlying33 rfl (by kernel_rfl) ?_) | fail)
          go_ret
          exact ⟨ret_bool (by rw [HRK.out, decide_eq_true HIN.out]; simp [hiv]), HW3.out.1⟩
      · have HIN : Hid (st.data.toList ∈ sgn17) := Lib.hid (by rw [← ByteArray.toList_eq, show st.toList = [40] by simpa using e10]; decide)
        go_wp2_with (first | (refine wpList_load_row rfl 33 (.tmp 3) rfl b3 rfl 33 #[.int .u8 (kd : Nat), .string st, .int .i64 0, .int .i64 pl] (0, 0) _ HW3.out.2.2 Tryd.underlying33 rfl (by kernel_rfl) ?_) | (refine wpList_load_row rfl 33 (.tmp 1) rfl b1 rfl 33 #[.int .u8 (kd : Nat), .string st, .int .i64 iv, .int .i64 pl] (0, 0) _ HW3.out.2.1 Tryd.underlying33 rfl (by kernel_rfl) ?_) | fail)
        go_ret
        exact ⟨ret_bool (by rw [HRK.out, decide_eq_true HIN.out]; simp [hiv]), HW3.out.1⟩
    · have e1 : ((0 : Int) == iv) = false := by simp; omega
      cases e10 : (st.toList == [40])
      · cases e11 : (st.toList == [41])
        · cases e12 : (st.toList == [123])
          · cases e13 : (st.toList == [125])
            · cases e14 : (st.toList == [91])
              · cases e15 : (st.toList == [93])
                · cases e16 : (st.toList == [44])
                  · cases e17 : (st.toList == [61])
                    · cases e18 : (st.toList == [60])
                      · cases e19 : (st.toList == [43])
                        · cases e20 : (st.toList == [45])
                          · cases e21 : (st.toList == [42])
                            · cases e22 : (st.toList == [47])
                              · cases e23 : (st.toList == [37])
                                · cases e24 : (st.toList == [61, 61])
                                  · cases e25 : (st.toList == [33, 61])
                                    · cases e26 : (st.toList == [60, 61])
                                      · have hns : st.data.toList ∉ sgn17 := fun h => by
                                          rw [← ByteArray.toList_eq] at h
                                          have h2 : sgn17.contains st.toList = false := by simp only [sgn17, List.contains, List.elem, *]
                                          have h3 : sgn17.contains st.toList = true := by simpa using h
                                          rw [h3] at h2
                                          cases h2
                                        go_wp2_with fail
                                        go_ret
                                        exact ⟨ret_bool (by rw [HRK.out, decide_eq_false hns]; rfl), HW3.out.1⟩
                                      · have HIN : Hid (st.data.toList ∈ sgn17) := Lib.hid (by rw [← ByteArray.toList_eq, show st.toList = [60, 61] by simpa using e26]; decide)
                                        go_wp2_with (first | (refine wpList_load_row rfl 33 (.tmp 3) rfl b3 rfl 33 #[.int .u8 (kd : Nat), .string st, .int .i64 0, .int .i64 pl] (0, 0) _ HW3.out.2.2 Tryd.underlying33 rfl (by kernel_rfl) ?_) | (refine wpList_load_row rfl 33 (.tmp 1) rfl b1 rfl 33 #[.int .u8 (kd : Nat), .string st, .int .i64 iv, .int .i64 pl] (0, 0) _ HW3.out.2.1 Tryd.underlying33 rfl (by kernel_rfl) ?_) | fail)
                                        go_ret
                                        exact ⟨ret_bool (by rw [HRK.out, decide_eq_true HIN.out]; simp [hiv]), HW3.out.1⟩
                                    · have HIN : Hid (st.data.toList ∈ sgn17) := Lib.hid (by rw [← ByteArray.toList_eq, show st.toList = [33, 61] by simpa using e25]; decide)
                                      go_wp2_with (first | (refine wpList_load_row rfl 33 (.tmp 3) rfl b3 rfl 33 #[.int .u8 (kd : Nat), .string st, .int .i64 0, .int .i64 pl] (0, 0) _ HW3.out.2.2 Tryd.underlying33 rfl (by kernel_rfl) ?_) | (refine wpList_load_row rfl 33 (.tmp 1) rfl b1 rfl 33 #[.int .u8 (kd : Nat), .string st, .int .i64 iv, .int .i64 pl] (0, 0) _ HW3.out.2.1 Tryd.underlying33 rfl (by kernel_rfl) ?_) | fail)
                                      go_ret
                                      exact ⟨ret_bool (by rw [HRK.out, decide_eq_true HIN.out]; simp [hiv]), HW3.out.1⟩
                                  · have HIN : Hid (st.data.toList ∈ sgn17) := Lib.hid (by rw [← ByteArray.toList_eq, show st.toList = [61, 61] by simpa using e24]; decide)
                                    go_wp2_with (first | (refine wpList_load_row rfl 33 (.tmp 3) rfl b3 rfl 33 #[.int .u8 (kd : Nat), .string st, .int .i64 0, .int .i64 pl] (0, 0) _ HW3.out.2.2 Tryd.underlying33 rfl (by kernel_rfl) ?_) | (refine wpList_load_row rfl 33 (.tmp 1) rfl b1 rfl 33 #[.int .u8 (kd : Nat), .string st, .int .i64 iv, .int .i64 pl] (0, 0) _ HW3.out.2.1 Tryd.underlying33 rfl (by kernel_rfl) ?_) | fail)
                                    go_ret
                                    exact ⟨ret_bool (by rw [HRK.out, decide_eq_true HIN.out]; simp [hiv]), HW3.out.1⟩
                                · have HIN : Hid (st.data.toList ∈ sgn17) := Lib.hid (by rw [← ByteArray.toList_eq, show st.toList = [37] by simpa using e23]; decide)
                                  go_wp2_with (first | (refine wpList_load_row rfl 33 (.tmp 3) rfl b3 rfl 33 #[.int .u8 (kd : Nat), .string st, .int .i64 0, .int .i64 pl] (0, 0) _ HW3.out.2.2 Tryd.underlying33 rfl (by kernel_rfl) ?_) | (refine wpList_load_row rfl 33 (.tmp 1) rfl b1 rfl 33 #[.int .u8 (kd : Nat), .string st, .int .i64 iv, .int .i64 pl] (0, 0) _ HW3.out.2.1 Tryd.underlying33 rfl (by kernel_rfl) ?_) | fail)
                                  go_ret
                                  exact ⟨ret_bool (by rw [HRK.out, decide_eq_true HIN.out]; simp [hiv]), HW3.out.1⟩
                              · have HIN : Hid (st.data.toList ∈ sgn17) := Lib.hid (by rw [← ByteArray.toList_eq, show st.toList = [47] by simpa using e22]; decide)
                                go_wp2_with (first | (refine wpList_load_row rfl 33 (.tmp 3) rfl b3 rfl 33 #[.int .u8 (kd : Nat), .string st, .int .i64 0, .int .i64 pl] (0, 0) _ HW3.out.2.2 Tryd.underlying33 rfl (by kernel_rfl) ?_) | (refine wpList_load_row rfl 33 (.tmp 1) rfl b1 rfl 33 #[.int .u8 (kd : Nat), .string st, .int .i64 iv, .int .i64 pl] (0, 0) _ HW3.out.2.1 Tryd.underlying33 rfl (by kernel_rfl) ?_) | fail)
                                go_ret
                                exact ⟨ret_bool (by rw [HRK.out, decide_eq_true HIN.out]; simp [hiv]), HW3.out.1⟩
                            · have HIN : Hid (st.data.toList ∈ sgn17) := Lib.hid (by rw [← ByteArray.toList_eq, show st.toList = [42] by simpa using e21]; decide)
                              go_wp2_with (first | (refine wpList_load_row rfl 33 (.tmp 3) rfl b3 rfl 33 #[.int .u8 (kd : Nat), .string st, .int .i64 0, .int .i64 pl] (0, 0) _ HW3.out.2.2 Tryd.underlying33 rfl (by kernel_rfl) ?_) | (refine wpList_load_row rfl 33 (.tmp 1) rfl b1 rfl 33 #[.int .u8 (kd : Nat), .string st, .int .i64 iv, .int .i64 pl] (0, 0) _ HW3.out.2.1 Tryd.underlying33 rfl (by kernel_rfl) ?_) | fail)
                              go_ret
                              exact ⟨ret_bool (by rw [HRK.out, decide_eq_true HIN.out]; simp [hiv]), HW3.out.1⟩
                          · have HIN : Hid (st.data.toList ∈ sgn17) := Lib.hid (by rw [← ByteArray.toList_eq, show st.toList = [45] by simpa using e20]; decide)
                            go_wp2_with (first | (refine wpList_load_row rfl 33 (.tmp 3) rfl b3 rfl 33 #[.int .u8 (kd : Nat), .string st, .int .i64 0, .int .i64 pl] (0, 0) _ HW3.out.2.2 Tryd.underlying33 rfl (by kernel_rfl) ?_) | (refine wpList_load_row rfl 33 (.tmp 1) rfl b1 rfl 33 #[.int .u8 (kd : Nat), .string st, .int .i64 iv, .int .i64 pl] (0, 0) _ HW3.out.2.1 Tryd.underlying33 rfl (by kernel_rfl) ?_) | fail)
                            go_ret
                            exact ⟨ret_bool (by rw [HRK.out, decide_eq_true HIN.out]; simp [hiv]), HW3.out.1⟩
                        · have HIN : Hid (st.data.toList ∈ sgn17) := Lib.hid (by rw [← ByteArray.toList_eq, show st.toList = [43] by simpa using e19]; decide)
                          go_wp2_with (first | (refine wpList_load_row rfl 33 (.tmp 3) rfl b3 rfl 33 #[.int .u8 (kd : Nat), .string st, .int .i64 0, .int .i64 pl] (0, 0) _ HW3.out.2.2 Tryd.underlying33 rfl (by kernel_rfl) ?_) | (refine wpList_load_row rfl 33 (.tmp 1) rfl b1 rfl 33 #[.int .u8 (kd : Nat), .string st, .int .i64 iv, .int .i64 pl] (0, 0) _ HW3.out.2.1 Tryd.underlying33 rfl (by kernel_rfl) ?_) | fail)
                          go_ret
                          exact ⟨ret_bool (by rw [HRK.out, decide_eq_true HIN.out]; simp [hiv]), HW3.out.1⟩
                      · have HIN : Hid (st.data.toList ∈ sgn17) := Lib.hid (by rw [← ByteArray.toList_eq, show st.toList = [60] by simpa using e18]; decide)
                        go_wp2_with (first | (refine wpList_load_row rfl 33 (.tmp 3) rfl b3 rfl 33 #[.int .u8 (kd : Nat), .string st, .int .i64 0, .int .i64 pl] (0, 0) _ HW3.out.2.2 Tryd.underlying33 rfl (by kernel_rfl) ?_) | (refine wpList_load_row rfl 33 (.tmp 1) rfl b1 rfl 33 #[.int .u8 (kd : Nat), .string st, .int .i64 iv, .int .i64 pl] (0, 0) _ HW3.out.2.1 Tryd.underlying33 rfl (by kernel_rfl) ?_) | fail)
                        go_ret
                        exact ⟨ret_bool (by rw [HRK.out, decide_eq_true HIN.out]; simp [hiv]), HW3.out.1⟩
                    · have HIN : Hid (st.data.toList ∈ sgn17) := Lib.hid (by rw [← ByteArray.toList_eq, show st.toList = [61] by simpa using e17]; decide)
                      go_wp2_with (first | (refine wpList_load_row rfl 33 (.tmp 3) rfl b3 rfl 33 #[.int .u8 (kd : Nat), .string st, .int .i64 0, .int .i64 pl] (0, 0) _ HW3.out.2.2 Tryd.underlying33 rfl (by kernel_rfl) ?_) | (refine wpList_load_row rfl 33 (.tmp 1) rfl b1 rfl 33 #[.int .u8 (kd : Nat), .string st, .int .i64 iv, .int .i64 pl] (0, 0) _ HW3.out.2.1 Tryd.underlying33 rfl (by kernel_rfl) ?_) | fail)
                      go_ret
                      exact ⟨ret_bool (by rw [HRK.out, decide_eq_true HIN.out]; simp [hiv]), HW3.out.1⟩
                  · have HIN : Hid (st.data.toList ∈ sgn17) := Lib.hid (by rw [← ByteArray.toList_eq, show st.toList = [44] by simpa using e16]; decide)
                    go_wp2_with (first | (refine wpList_load_row rfl 33 (.tmp 3) rfl b3 rfl 33 #[.int .u8 (kd : Nat), .string st, .int .i64 0, .int .i64 pl] (0, 0) _ HW3.out.2.2 Tryd.underlying33 rfl (by kernel_rfl) ?_) | (refine wpList_load_row rfl 33 (.tmp 1) rfl b1 rfl 33 #[.int .u8 (kd : Nat), .string st, .int .i64 iv, .int .i64 pl] (0, 0) _ HW3.out.2.1 Tryd.underlying33 rfl (by kernel_rfl) ?_) | fail)
                    go_ret
                    exact ⟨ret_bool (by rw [HRK.out, decide_eq_true HIN.out]; simp [hiv]), HW3.out.1⟩
                · have HIN : Hid (st.data.toList ∈ sgn17) := Lib.hid (by rw [← ByteArray.toList_eq, show st.toList = [93] by simpa using e15]; decide)
                  go_wp2_with (first | (refine wpList_load_row rfl 33 (.tmp 3) rfl b3 rfl 33 #[.int .u8 (kd : Nat), .string st, .int .i64 0, .int .i64 pl] (0, 0) _ HW3.out.2.2 Tryd.underlying33 rfl (by kernel_rfl) ?_) | (refine wpList_load_row rfl 33 (.tmp 1) rfl b1 rfl 33 #[.int .u8 (kd : Nat), .string st, .int .i64 iv, .int .i64 pl] (0, 0) _ HW3.out.2.1 Tryd.underlying33 rfl (by kernel_rfl) ?_) | fail)
                  go_ret
                  exact ⟨ret_bool (by rw [HRK.out, decide_eq_true HIN.out]; simp [hiv]), HW3.out.1⟩
              · have HIN : Hid (st.data.toList ∈ sgn17) := Lib.hid (by rw [← ByteArray.toList_eq, show st.toList = [91] by simpa using e14]; decide)
                go_wp2_with (first | (refine wpList_load_row rfl 33 (.tmp 3) rfl b3 rfl 33 #[.int .u8 (kd : Nat), .string st, .int .i64 0, .int .i64 pl] (0, 0) _ HW3.out.2.2 Tryd.underlying33 rfl (by kernel_rfl) ?_) | (refine wpList_load_row rfl 33 (.tmp 1) rfl b1 rfl 33 #[.int .u8 (kd : Nat), .string st, .int .i64 iv, .int .i64 pl] (0, 0) _ HW3.out.2.1 Tryd.underlying33 rfl (by kernel_rfl) ?_) | fail)
                go_ret
                exact ⟨ret_bool (by rw [HRK.out, decide_eq_true HIN.out]; simp [hiv]), HW3.out.1⟩
            · have HIN : Hid (st.data.toList ∈ sgn17) := Lib.hid (by rw [← ByteArray.toList_eq, show st.toList = [125] by simpa using e13]; decide)
              go_wp2_with (first | (refine wpList_load_row rfl 33 (.tmp 3) rfl b3 rfl 33 #[.int .u8 (kd : Nat), .string st, .int .i64 0, .int .i64 pl] (0, 0) _ HW3.out.2.2 Tryd.underlying33 rfl (by kernel_rfl) ?_) | (refine wpList_load_row rfl 33 (.tmp 1) rfl b1 rfl 33 #[.int .u8 (kd : Nat), .string st, .int .i64 iv, .int .i64 pl] (0, 0) _ HW3.out.2.1 Tryd.underlying33 rfl (by kernel_rfl) ?_) | fail)
              go_ret
              exact ⟨ret_bool (by rw [HRK.out, decide_eq_true HIN.out]; simp [hiv]), HW3.out.1⟩
          · have HIN : Hid (st.data.toList ∈ sgn17) := Lib.hid (by rw [← ByteArray.toList_eq, show st.toList = [123] by simpa using e12]; decide)
            go_wp2_with (first | (refine wpList_load_row rfl 33 (.tmp 3) rfl b3 rfl 33 #[.int .u8 (kd : Nat), .string st, .int .i64 0, .int .i64 pl] (0, 0) _ HW3.out.2.2 Tryd.underlying33 rfl (by kernel_rfl) ?_) | (refine wpList_load_row rfl 33 (.tmp 1) rfl b1 rfl 33 #[.int .u8 (kd : Nat), .string st, .int .i64 iv, .int .i64 pl] (0, 0) _ HW3.out.2.1 Tryd.underlying33 rfl (by kernel_rfl) ?_) | fail)
            go_ret
            exact ⟨ret_bool (by rw [HRK.out, decide_eq_true HIN.out]; simp [hiv]), HW3.out.1⟩
        · have HIN : Hid (st.data.toList ∈ sgn17) := Lib.hid (by rw [← ByteArray.toList_eq, show st.toList = [41] by simpa using e11]; decide)
          go_wp2_with (first | (refine wpList_load_row rfl 33 (.tmp 3) rfl b3 rfl 33 #[.int .u8 (kd : Nat), .string st, .int .i64 0, .int .i64 pl] (0, 0) _ HW3.out.2.2 Tryd.underlying33 rfl (by kernel_rfl) ?_) | (refine wpList_load_row rfl 33 (.tmp 1) rfl b1 rfl 33 #[.int .u8 (kd : Nat), .string st, .int .i64 iv, .int .i64 pl] (0, 0) _ HW3.out.2.1 Tryd.underlying33 rfl (by kernel_rfl) ?_) | fail)
          go_ret
          exact ⟨ret_bool (by rw [HRK.out, decide_eq_true HIN.out]; simp [hiv]), HW3.out.1⟩
      · have HIN : Hid (st.data.toList ∈ sgn17) := Lib.hid (by rw [← ByteArray.toList_eq, show st.toList = [40] by simpa using e10]; decide)
        go_wp2_with (first | (refine wpList_load_row rfl 33 (.tmp 3) rfl b3 rfl 33 #[.int .u8 (kd : Nat), .string st, .int .i64 0, .int .i64 pl] (0, 0) _ HW3.out.2.2 Tryd.underlying33 rfl (by kernel_rfl) ?_) | (refine wpList_load_row rfl 33 (.tmp 1) rfl b1 rfl 33 #[.int .u8 (kd : Nat), .string st, .int .i64 iv, .int .i64 pl] (0, 0) _ HW3.out.2.1 Tryd.underlying33 rfl (by kernel_rfl) ?_) | fail)
        go_ret
        exact ⟨ret_bool (by rw [HRK.out, decide_eq_true HIN.out]; simp [hiv]), HW3.out.1⟩
  have m1 : ((kd : Int) == 1) = false := by simp; omega
  have m2 : ((kd : Int) == 2) = false := by simp; omega
  have m3 : ((kd : Int) == 3) = false := by simp; omega
  have m4 : ((kd : Int) == 4) = false := by simp; omega
  have HRK : Hid (R = false) := Lib.hid (by rw [HR.out]; unfold rightB; dsimp only; rw [if_neg hk1, if_neg hk2, if_neg hk3, if_neg hk4])
  go_wp2_with fail
  go_ret
  exact ⟨ret_bool (by rw [HRK.out]), HW2.out.1⟩
end Go.Proofs.YtlfkiaphmifelaaDoor
