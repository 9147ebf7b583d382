/- The walk of prompterlaw06.FrameBits: it returns true. -/
import Derived.Test.YtmoplkmfpobhaaaAw
import Derived.Test.YtmoplkmfpobhaaaBit
namespace Go.Proofs.Ytmoplkmfpobhaaa
open Go.RowKit

theorem bit_of (bit : Int) (n : Nat) (h : n ≤ 100000) : ∃ k : Nat, wrap64 ((IntKind.u64.wrap bit).tmod (8 * ((n : Int) + 12))) = (k : Int) ∧ k < 8 * (n + 12) := by
  have h0 : 0 ≤ IntKind.u64.wrap bit := by rw [IntKind.wrap_u64]; omega
  have h1 := Int.tmod_nonneg (8 * ((n : Int) + 12)) h0
  have h2 := Int.tmod_lt_of_pos (IntKind.u64.wrap bit) (b := 8 * ((n : Int) + 12)) (by omega)
  refine ⟨((IntKind.u64.wrap bit).tmod (8 * ((n : Int) + 12))).toNat, ?_, by omega⟩
  rw [IntWalk.wrap64_in _ ⟨by omega, by omega⟩]
  omega

theorem bit_of4 (bit : Int) (n : Nat) (h : n ≤ 100000) : ∃ k : Nat, wrap64 ((IntKind.u64.wrap bit).tmod (8 * ((n : Int) + 4))) = (k : Int) ∧ k < 8 * (n + 4) := by
  have h0 : 0 ≤ IntKind.u64.wrap bit := by rw [IntKind.wrap_u64]; omega
  have h1 := Int.tmod_nonneg (8 * ((n : Int) + 4)) h0
  have h2 := Int.tmod_lt_of_pos (IntKind.u64.wrap bit) (b := 8 * ((n : Int) + 4)) (by omega)
  refine ⟨((IntKind.u64.wrap bit).tmod (8 * ((n : Int) + 4))).toNat, ?_, by omega⟩
  rw [IntWalk.wrap64_in _ ⟨by omega, by omega⟩]
  omega
theorem mask_bit (m i : Nat) (hm : m < 4294967296) : bits BinOp.and IntKind.u32 ((m : Int) / 2 ^ i) 1 = ((m / 2 ^ i % 2 : Nat) : Int) := by
  have h1 : (m : Int) / 2 ^ i = ((m / 2 ^ i : Nat) : Int) := by
    rw [Int.natCast_ediv, Int.natCast_pow]; rfl
  have h2 : m / 2 ^ i ≤ m := Nat.div_le_self _ _
  rw [h1]
  have := u32_and_nat (m / 2 ^ i) 1 (by omega) (by omega)
  rw [show ((1 : Nat) : Int) = 1 from rfl] at this
  rw [this, show (1 : Nat) = 2 ^ 1 - 1 from rfl, Nat.and_two_pow_sub_one_eq_mod]
theorem mod_succ (m i : Nat) : m % 2 ^ (i + 1) = m % 2 ^ i + 2 ^ i * (m / 2 ^ i % 2) := by
  rw [Nat.pow_succ, Nat.mod_mul]
theorem add_bit (x i : Nat) (h : x < 2 ^ i) : x + 2 ^ i = x ^^^ 2 ^ i := by
  have := split_xor (x + 2 ^ i * 1) i
  rw [show (x + 2 ^ i * 1) / 2 ^ i = 1 from by rw [Nat.add_mul_div_left _ _ (Nat.two_pow_pos i), Nat.div_eq_of_lt h], show (x + 2 ^ i * 1) % 2 ^ i = x from by rw [Nat.add_mul_mod_self_left, Nat.mod_eq_of_lt h], Nat.xor_comm, Nat.mul_one] at this
  exact this

theorem pow8 (j : Nat) (h : j < 8) : (2 : Int) ^ j % 256 = ((2 ^ j : Nat) : Int) := by
  have : j = 0 ∨ j = 1 ∨ j = 2 ∨ j = 3 ∨ j = 4 ∨ j = 5 ∨ j = 6 ∨ j = 7 := by omega
  rcases this with rfl | rfl | rfl | rfl | rfl | rfl | rfl | rfl <;> rfl
theorem xor8 (x j : Nat) (hx : x < 256) (h : j < 8) : bits BinOp.xor IntKind.u8 (x : Int) (2 ^ j % 256) = ((x ^^^ 2 ^ j : Nat) : Int) := by
  have h2 : 2 ^ j < 2 ^ 8 := Nat.pow_lt_pow_right (by omega) h
  rw [pow8 j h]
  exact u8_xor_nat x (2 ^ j) hx h2

theorem bcells_set (l : List UInt8) (i : Nat) (b : UInt8) : bcells (l.set i b) = (bcells l).set i (.int .u8 (b.toNat : Int)) := by
  unfold bcells; rw [List.map_set]

/-- A bit of an owned row is turned: what the walk asks, and what it leaves. -/
theorem flip_facts {W : World} {B g N c : Nat} {L : List UInt8} (ho : W.ownsRow B 5 1 (.slice (some ⟨g, 0, none⟩) N c) N (bcells L)) (hL : L.length = N) (k : Nat) (hk : k < 8 * N) :
    ∃ x y : Nat, x < 256 ∧ y < 256 ∧ W.cell? ⟨g, k / 8, none⟩ = some (.int .u8 x) ∧ W.frozen? ⟨g, k / 8, none⟩ = false ∧ bits BinOp.xor IntKind.u8 (x : Int) (2 ^ (k % 8) % 256) = (y : Int) ∧
      (W.setCell ⟨g, k / 8, none⟩ (.int .u8 (y : Int))).ownsRow B 5 1 (.slice (some ⟨g, 0, none⟩) N c) N (bcells (flip L k)) := by
  have hq : k / 8 < L.length := by omega
  have hx : L[k / 8].toNat < 256 := UInt8.toNat_lt _
  have hy := xor_byte L[k / 8].toNat (k % 8) hx (by omega)
  refine ⟨L[k / 8].toNat, L[k / 8].toNat ^^^ 2 ^ (k % 8), hx, hy, (ho.cellAt (k / 8) (by omega)).trans (bcells_get L (k / 8) hq), ho.frozenAt _, xor8 _ _ hx (by omega), ?_⟩
  have h := (ho.stored (k / 8) (.int .u8 ((L[k / 8].toNat ^^^ 2 ^ (k % 8) : Nat) : Int))).1
  have e : bcells (flip L k) = (bcells L).set (k / 8) (.int .u8 ((L[k / 8].toNat ^^^ 2 ^ (k % 8) : Nat) : Int)) := by
    unfold flip
    rw [bcells_set, getD_get _ _ hq, UInt8.toNat_ofNat', Nat.mod_eq_of_lt hy]
  rw [e]; exact h

theorem read_f (g n c : Nat) (L : List UInt8) (B : Nat) (w0 W : World) (hL : L.length = n) (hn : n ≤ 100000) (ho : W.ownsRow B 5 1 (.slice (some ⟨g, 0, none⟩) n c) n (bcells L)) (B0 : Nat) (hB : B0 ≤ w0.heap.size) (hb : Below B0 w0 W) :
    Calls Try.prog 15 #[.slice (some ⟨g, 0, none⟩) n c] W fun e w' => ∃ v, e = .returned (.tuple #[v, .int .i64 (usedL L), .int .i64 (lookL L).2.2]) ∧
      w'.ownsRow B 5 1 (.slice (some ⟨g, 0, none⟩) n c) n (bcells L) ∧ Below B0 w0 w' := by
  obtain ⟨A, c', h, hc⟩ := own_form ho
  injection h with _ _ h3
  exact (read_any _ n c L W hL hn (by omega) (Reads.of_own ho)).mono fun _ _ ⟨v, he, _, _, _, _, hb2⟩ => ⟨v, he, own_below ho hb2, hb.trans (hb2.mono (Nat.le_trans hB hb.size))⟩

set_option maxRecDepth 100000 in
set_option maxHeartbeats 1000000 in
theorem bits_walk (A : Option Addr) (n cap : Nat) (l : List UInt8) (bit at_ mask : Int) (w : World) (hl : l.length = n) (hn : n ≤ 9223372036854775807) (hr : Reads w w.heap.size 1 A n (bcells l))
    (b3 : 0 ≤ mask ∧ mask ≤ 4294967295) :
    Calls Try.prog 4 #[.slice A n cap, .int .i64 bit, .int .i64 at_, .int .u32 mask] w fun e w' => e = .returned (.bool true) ∧ Below w.heap.size w w' := by
  have HL := Lib.hid hl
  have HR := Lib.hid hr
  clear hl hr
  go_enter Try.func4, Try.ntmps4
  go_wp2_with fail
  refine (awake_any w).mono ?_
  rintro e w1 ⟨rfl, hb1⟩
  have HB1 := Lib.hid hb1
  clear hb1
  by_cases h1 : 3000 < n
  · go_wp2_with fail
    go_ret
    exact ⟨rfl, HB1.out⟩
  · go_wp2_with fail
    have HR1 := Lib.hid ((HR.out.below HB1.out).more HB1.out.size)
    refine (frame_ok A n cap l w1 HL.out (by omega) HR1.out).mono ?_
    rintro e w2 ⟨v, rfl, A2, c2, rfl, ho2, hb2⟩
    have HN := Lib.hid (show (frameL l).length = n + 12 by rw [frameL_length, HL.out])
    rw [HN.out] at ho2 ⊢
    obtain ⟨g, c, hA, hg1, _⟩ := ho2.form (by omega)
    injection hA with hA2 _ hA3
    subst hA2; subst hA3
    have HO2 := Lib.hid ho2
    have HB2 := Lib.hid (HB1.out.trans (hb2.mono HB1.out.size))
    have hgw : w.heap.size ≤ g := Nat.le_trans HB1.out.size hg1
    clear ho2 hb2
    obtain ⟨k, hk, hk2⟩ := bit_of bit n (by omega)
    obtain ⟨x, y, hx, hy, hcell, hfro, hv, ho3⟩ := flip_facts HO2.out HN.out k hk2
    have HO3 := Lib.hid ho3
    clear ho3
    go_wp2_with fail
    refine (read_f g (n + 12) c2 (flip (frameL l) k) _ w _ (by rw [flip_length]; exact HN.out) (by omega) HO3.out w.heap.size (Nat.le_refl _) (HB2.out.setCell (by simpa using hgw) _)).mono ?_
    rintro e w3 ⟨v3, rfl, ho4, hb4⟩
    rw [look_flip l (by rw [HL.out]; omega) k (by rw [HL.out]; omega)]
    have HO4 := Lib.hid ho4
    have HB4 := Lib.hid hb4
    clear ho4 hb4 hcell hfro hv HO3
    obtain ⟨x2, y2, hx2, hy2, hcell, hfro, hv, ho3⟩ := flip_facts HO4.out (by rw [flip_length]; exact HN.out) k hk2
    rw [flip_flip _ _ (by rw [HN.out]; exact hk2)] at ho3
    have HO3 := Lib.hid ho3
    clear ho3
    go_wp2_with fail
    refine (read_f g (n + 12) c2 (frameL l) _ w _ HN.out (by omega) HO3.out w.heap.size (Nat.le_refl _) (HB4.out.setCell (by simpa using hgw) _)).mono ?_
    rintro e w5 ⟨v5, rfl, ho6, hb6⟩
    rw [look_frame l (by rw [HL.out]; omega)]
    have HO6 := Lib.hid ho6
    have HB6 := Lib.hid hb6
    clear ho6 hb6 hcell hfro hv HO3 HO4 HB4 HO2 HB2 hk
    go_wp2_with fail
    obtain ⟨fr, hfr, hfr2⟩ := bit_of4 at_ n (by omega)
    rw [hfr]
    clear hfr
    obtain ⟨m, rfl⟩ := Int.eq_ofNat_of_zero_le b3.1
    have hm : m < 4294967296 := by omega
    go_loopw [20, 21] (fun s i wr => ∃ (j : Nat) (X : List UInt8), j ≤ 32 ∧ i = .int .i64 j ∧ s = .bool (m % 2 ^ j != 0) ∧ fr + j ≤ 8 * (n + 4) ∧ X.length = n + 4 ∧ R X = resid ^^^ steps (8 * X.length - fr) (m % 2 ^ j) ∧
        wr.ownsRow w1.heap.size 5 1 (.slice (some ⟨g, 0, none⟩) (n + 12) c2) (n + 12) (bcells (le4 n ++ le4 (sumL (le4 n)) ++ X)) ∧ Below w.heap.size w wr)
      (fun _ i _ => 32 - (intOf i).toNat)
    case atStart =>
      refine ⟨0, l ++ le4 (sumL l), by omega, rfl, by simp [Nat.mod_one], by omega, by rw [List.length_append, le4_length, HL.out], ?_, ?_, HB6.out⟩
      · rw [frame_resid, show m % 2 ^ 0 = 0 from by rw [Nat.pow_zero, Nat.mod_one], steps_zero, Nat.xor_zero]
      · have := HO6.out
        rw [frame_head, HL.out] at this
        exact this
    case round =>
      obtain ⟨j, X, hj, rfl, rfl, hfj, hXl, hXR, ho, hb⟩ := hrel
      have HO := Lib.hid ho
      have HB := Lib.hid hb
      have HXL := Lib.hid hXl
      have HXR := Lib.hid hXR
      clear ho hb hXl hXR
      by_cases hlt : j < 32 ∧ fr + j < 8 * (n + 4)
      · obtain ⟨hlt1, hlt2⟩ := hlt
        have hmb := mask_bit m j hm
        have hjb : m % 2 ^ j < 2 ^ j := Nat.mod_lt _ (Nat.two_pow_pos j)
        have HMS := Lib.hid (mod_succ m j)
        by_cases hbit : m / 2 ^ j % 2 = 1
        · rw [hbit] at hmb
          have HM1 := Lib.hid (show m % 2 ^ (j + 1) = m % 2 ^ j ^^^ 2 ^ j by rw [HMS.out, hbit, Nat.mul_one, add_bit _ _ hjb])
          have HM2 := Lib.hid (show (m % 2 ^ (j + 1) != 0) = true by
            have := Nat.two_pow_pos j
            rw [bne_iff_ne, HMS.out, hbit]; omega)
          have hlenL : (le4 n ++ le4 (sumL (le4 n)) ++ X).length = n + 12 := by rw [List.length_append, List.length_append, le4_length, le4_length, HXL.out]; omega
          obtain ⟨x3, y3, hx3, hy3, hcell, hfro, hv, ho3⟩ := flip_facts HO.out hlenL (64 + fr + j) (by omega)
          rw [flip_append_right _ _ _ (by rw [List.length_append, le4_length, le4_length]; omega), List.length_append, le4_length, le4_length, show 64 + fr + j - 8 * (4 + 4) = fr + j from by omega] at ho3
          have HO3 := Lib.hid ho3
          have HRW := Lib.hid (R_window X resid fr j (m % 2 ^ j) HXR.out (by rw [HXL.out]; exact hlt2))
          clear ho3 hbit hlenL
          go_wp2_with fail
          go_roundw
          case rel => exact ⟨j + 1, flip X (fr + j), by omega, by go_num, by rw [HM2.out], by omega, by rw [flip_length]; exact HXL.out, by rw [flip_length, HM1.out]; exact HRW.out, HO3.out, HB.out.setCell (by simpa using hgw) _⟩
          case measure => simp [intOf]; omega
        · have hbit0 : m / 2 ^ j % 2 = 0 := by omega
          rw [hbit0] at hmb
          have HM1 := Lib.hid (show m % 2 ^ (j + 1) = m % 2 ^ j by rw [HMS.out, hbit0]; omega)
          clear hbit hbit0
          go_wp2_with fail
          go_roundw
          case rel => exact ⟨j + 1, X, by omega, by go_num, by rw [HM1.out], by omega, HXL.out, by rw [HM1.out]; exact HXR.out, HO.out, HB.out⟩
          case measure => simp [intOf]; omega
      · have hmod : m % 2 ^ j < 4294967296 := Nat.lt_of_le_of_lt (Nat.mod_le _ _) hm
        have HT := Lib.hid (R_turned hmod HXR.out)
        have HLH := Lib.hid (look_head n X (by omega) HXL.out)
        have hlenL : (le4 n ++ le4 (sumL (le4 n)) ++ X).length = n + 12 := by rw [List.length_append, List.length_append, le4_length, le4_length, HXL.out]; omega
        by_cases hz : m % 2 ^ j = 0
        · have HV := Lib.hid (show lookL (le4 n ++ le4 (sumL (le4 n)) ++ X) = (n, 0, 0) by rw [HLH.out, if_pos (HT.out.2 hz)])
          have HU := Lib.hid (show usedL (le4 n ++ le4 (sumL (le4 n)) ++ X) = n + 12 by unfold usedL; rw [HV.out]; simp; omega)
          rw [show (m % 2 ^ j != 0) = false from by rw [hz]; rfl]
          clear hz hmod
          generalize (le4 n ++ le4 (sumL (le4 n)) ++ X) = Y at HO HV HU hlenL
          have HYL := Lib.hid hlenL
          clear hlenL
          by_cases hj32 : j < 32
          · have hfe : ¬ fr + j < 8 * (n + 4) := fun h => hlt ⟨hj32, h⟩
            clear hlt
            go_wp2_with fail
            refine (read_f g (n + 12) c2 Y _ w _ HYL.out (by omega) HO.out w.heap.size (Nat.le_refl _) HB.out).mono ?_
            rintro e w7 ⟨v7, rfl, _, hb7⟩
            rw [HV.out, HU.out]
            have HB7 := Lib.hid hb7
            clear hb7
            go_wp2_with fail
            go_ret
            exact ⟨rfl, HB7.out⟩
          · clear hlt
            go_wp2_with fail
            refine (read_f g (n + 12) c2 Y _ w _ HYL.out (by omega) HO.out w.heap.size (Nat.le_refl _) HB.out).mono ?_
            rintro e w7 ⟨v7, rfl, _, hb7⟩
            rw [HV.out, HU.out]
            have HB7 := Lib.hid hb7
            clear hb7
            go_wp2_with fail
            go_ret
            exact ⟨rfl, HB7.out⟩
        · have HV := Lib.hid (show lookL (le4 n ++ le4 (sumL (le4 n)) ++ X) = (0, 8 + n, 8) by rw [HLH.out, if_neg (fun h => hz (HT.out.1 h))])
          have HU := Lib.hid (show usedL (le4 n ++ le4 (sumL (le4 n)) ++ X) = 8 + n by unfold usedL; rw [HV.out]; simp)
          rw [show (m % 2 ^ j != 0) = true from by rw [bne_iff_ne]; exact hz]
          clear hz hmod
          generalize (le4 n ++ le4 (sumL (le4 n)) ++ X) = Y at HO HV HU hlenL
          have HYL := Lib.hid hlenL
          clear hlenL
          by_cases hj32 : j < 32
          · have hfe : ¬ fr + j < 8 * (n + 4) := fun h => hlt ⟨hj32, h⟩
            clear hlt
            go_wp2_with fail
            refine (read_f g (n + 12) c2 Y _ w _ HYL.out (by omega) HO.out w.heap.size (Nat.le_refl _) HB.out).mono ?_
            rintro e w7 ⟨v7, rfl, _, hb7⟩
            rw [HV.out, HU.out]
            have HB7 := Lib.hid hb7
            clear hb7
            go_wp2_with fail
            go_ret
            exact ⟨rfl, HB7.out⟩
          · clear hlt
            go_wp2_with fail
            refine (read_f g (n + 12) c2 Y _ w _ HYL.out (by omega) HO.out w.heap.size (Nat.le_refl _) HB.out).mono ?_
            rintro e w7 ⟨v7, rfl, _, hb7⟩
            rw [HV.out, HU.out]
            have HB7 := Lib.hid hb7
            clear hb7
            go_wp2_with fail
            go_ret
            exact ⟨rfl, HB7.out⟩
end Go.Proofs.Ytmoplkmfpobhaaa
