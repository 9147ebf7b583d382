/- The walk of prompterlaw06.FrameBack: it returns true. -/
import Derived.Test.YtmoplkmfpobhaaaFby
namespace Go.Proofs.Ytmoplkmfpobhaaa
open Go.RowKit

theorem cut_of (x : Int) (n : Nat) (h : n ≤ 100000) : ∃ k : Nat, wrap64 ((IntKind.u64.wrap x).tmod ((n : Int) + 1)) = (k : Int) ∧ k ≤ n := by
  have h0 : 0 ≤ IntKind.u64.wrap x := by rw [IntKind.wrap_u64]; omega
  have h1 := Int.tmod_nonneg ((n : Int) + 1) h0
  have h2 := Int.tmod_lt_of_pos (IntKind.u64.wrap x) (b := (n : Int) + 1) (by omega)
  refine ⟨((IntKind.u64.wrap x).tmod ((n : Int) + 1)).toNat, ?_, by omega⟩
  rw [IntWalk.wrap64_in _ ⟨by omega, by omega⟩]
  omega

theorem own_take {w : World} {lo : Nat} {A : Option Addr} {n c : Nat} {l : List UInt8} (h : w.ownsRow lo 5 1 (.slice A n c) n (bcells l)) : Reads w w.heap.size 1 A n (bcells l) := Reads.of_own h

set_option maxRecDepth 100000 in
set_option maxHeartbeats 8000000 in
theorem back_walk (A : Option Addr) (c : Nat) (ls : List (List UInt8)) (Ac : Option Addr) (cc : Nat) (cu : List Int) (w : World) (hr : RL w w.heap.size A ls) (hm : ls.length ≤ 9223372036854775807)
    (hcu : Reads w w.heap.size 1 Ac cu.length (cu.map fun x => Value.int .i64 x)) (hmc : cu.length ≤ 9223372036854775807) :
    Calls Try.prog 8 #[.slice A ls.length c, .slice Ac cu.length cc] w fun e w' => e = .returned (.bool true) ∧ Below w.heap.size w w' := by
  obtain ⟨i0, hi, hz0, hz1, hz2⟩ := info_parts Try.info5
  obtain ⟨i1, hi', hy0, hy1, hy2⟩ := info_parts Try.info22
  have HI := Lib.hid (And.intro (And.intro hi (And.intro hz0 (And.intro hz1 hz2))) (And.intro hi' (And.intro hy0 (And.intro hy1 hy2))))
  clear hi hz0 hz1 hz2 hi' hy0 hy1 hy2
  have HR := Lib.hid hr
  have HCU := Lib.hid hcu
  clear hr hcu
  obtain ⟨N, hN⟩ : ∃ N, N = ls.length := ⟨_, rfl⟩
  obtain ⟨M, hM⟩ : ∃ M, M = cu.length := ⟨_, rfl⟩
  rw [← hN] at hm ⊢
  rw [← hM] at hmc ⊢
  have HN := Lib.hid hN
  have HM := Lib.hid hM
  clear hN hM
  go_enter Try.func8, Try.ntmps8
  go_wp2_with fail
  refine (awake_any w).mono ?_
  rintro e w1 ⟨rfl, hb1⟩
  have HB1 := Lib.hid hb1
  clear hb1
  by_cases h60 : 30 < N ∨ 60 < M
  · have h61 : N ≤ 30 → 60 < M := by omega
    by_cases h30 : 30 < N
    · go_wp2_with fail
      go_ret
      exact ⟨rfl, HB1.out⟩
    · have h62 : 60 < M := h61 (by omega)
      clear h60 h61
      go_wp2_with fail
      go_ret
      exact ⟨rfl, HB1.out⟩
  · have hN30 : N ≤ 30 := by omega
    have hM60 : M ≤ 60 := by omega
    clear h60 hm hmc
    go_wp2_with fail
    go_loopw [5, 6, 7] (fun s5 s6 s7 wr => ∃ (k room : Nat) (Aa : Option Addr) (ca : Nat), s7 = .int .i64 k ∧ s5 = .int .i64 room ∧ s6 = .slice Aa (framesL (ls.take k)).length ca ∧ k ≤ N ∧ room ≤ 3000 ∧ (framesL (ls.take k)).length + room ≤ 3000 + 12 * k ∧ (∀ l ∈ ls.take k, l.length ≤ 3000) ∧ wr.ownsRow w.heap.size 5 1 (.slice Aa (framesL (ls.take k)).length ca) (framesL (ls.take k)).length (bcells (framesL (ls.take k))) ∧ Below w.heap.size w wr) (fun _ _ s7 _ => N - (intOf s7).toNat)
    case atStart => exact ⟨0, 3000, none, 0, rfl, rfl, rfl, by omega, by omega, by simp [framesL], by simp, World.ownsRow_nil _ _ _ _, HB1.out⟩
    case round =>
      obtain ⟨k, room, Aa, ca, rfl, rfl, rfl, hk, hr3, hlr, hall, ho, hb⟩ := hrel
      obtain ⟨fs, hfs⟩ : ∃ fs, fs = framesL (ls.take k) := ⟨_, rfl⟩
      rw [← hfs] at hlr ho ⊢
      have HF := Lib.hid (And.intro hfs (And.intro hall (And.intro ho hb)))
      obtain ⟨F, hF⟩ : ∃ F, F = fs.length := ⟨_, rfl⟩
      rw [← hF] at hlr ho ⊢
      have HFL := Lib.hid hF
      have HO := Lib.hid ho
      have HB := Lib.hid hb
      clear hfs hall ho hF
      by_cases hlt : k < N
      · have hkl : k < ls.length := by rw [← HN.out]; exact hlt
        obtain ⟨b, off, Ap, cp, rfl, hc0, hrp⟩ := HR.out.at_ hkl
        obtain ⟨p, hp⟩ : ∃ p, p = ls[k] := ⟨_, rfl⟩
        rw [← hp] at hc0 hrp
        have hboff : b < w.heap.size := by
          obtain ⟨us, hru, _⟩ := HR.out
          obtain ⟨ad, h1, h2, _⟩ := hru.2 (by omega)
          cases h1
          exact h2
        have HT := Lib.hid (show ls.take (k + 1) = ls.take k ++ [p] by rw [List.take_succ_eq_append_getElem hkl, ← hp])
        have HRP := Lib.hid hrp
        have HC0 := Lib.hid hc0
        have hc1 : wr.cell? ⟨b, off + k, none⟩ = some (.slice Ap p.length cp) := (hb.cell (p := ⟨b, off + k, none⟩) hboff).trans HC0.out
        clear hp hrp hkl hc0 hb
        by_cases hroom : room < p.length
        · go_wp2_with fail
          go_ret
          exact ⟨rfl, HB.out⟩
        · go_wp2_with fail
          refine (frame_ok Ap p.length cp p wr rfl (by omega) ((HRP.out.below HB.out).more HB.out.size)).mono ?_
          rintro e w2 ⟨v, rfl, Af, cf, rfl, hof, hbf⟩
          have HOF := Lib.hid hof
          have HB2 := Lib.hid (HB.out.trans (hbf.mono HB.out.size))
          have HO2 := Lib.hid (own_below HO.out hbf)
          have HFR := Lib.hid (frameL_length p)
          obtain ⟨q, hq⟩ : ∃ q, q = (frameL p).length := ⟨_, rfl⟩
          rw [← hq]
          have hq2 : q ≤ p.length + 12 := Nat.le_of_eq (hq.trans HFR.out)
          have hq3 : p.length + 12 ≤ q := Nat.le_of_eq (hq.trans HFR.out).symm
          have HQ := Lib.hid hq
          have HR2 : Hid (Reads w2 w2.heap.size 1 Af q (bcells (frameL p))) := by rw [hq]; exact Reads.of_own HOF.out
          clear hof hbf hq hc1
          obtain ⟨⟨hi, hz0, hz1, hz2⟩, _⟩ := HI.out
          go_wp2_with (at_builtin; refine wpList_append_any _ rfl _ _ 22 rfl w.heap.size 5 i0 (.int .u8 0) 1 1 Try.underlying22 hi hz0 hz1 hz2 rfl (by decide) _ _ _ rfl HO2.out w2.heap.size Af q cf _ rfl HR2.out (bcells_one _) (by unfold maxLen; omega) (by omega) HB2.out.size ?_; intro v3 w3 ho3 hg3 hat3; obtain ⟨A3, c3, rfl, _⟩ := own_form ho3; have HO3 := Lib.hid ho3; have HG3 := Lib.hid hg3; clear ho3 hg3 hat3)
          clear hi hz0 hz1 hz2
          have HE := Lib.hid (show framesL (ls.take (k + 1)) = fs ++ frameL p by rw [HT.out, framesL_snoc, HF.out.1])
          have HE2 := Lib.hid (show (framesL (ls.take (k + 1))).length = F + q by rw [HE.out, List.length_append, HFL.out, HQ.out])
          go_wp2_with fail
          go_roundw
          case rel =>
            refine ⟨k + 1, room - p.length, A3, c3, by go_num, congrArg (Value.int .i64) (by omega), by rw [HE2.out], by omega, by omega, by rw [HE2.out]; omega, ?_, ?_, ?_⟩
            · rw [HT.out]
              intro l hl
              rcases List.mem_append.1 hl with h | h
              · exact HF.out.2.1 l h
              · rw [List.mem_singleton] at h; subst h; omega
            · rw [HE2.out, HE.out, bcells_append]; exact HO3.out
            · exact HB2.out.grown HG3.out HB2.out.size (fun g hg => (World.ownsRow.lt HO2.out g hg).1)
          case measure => simp [intOf]; omega
      · have hkN : k = N := by omega
        have HLS : Hid (∀ l ∈ ls, l.length ≤ 65536) := fun l hl => by
          have h := HF.out.2.1
          rw [hkN, List.take_of_length_le (by rw [HN.out]; exact Nat.le_refl _)] at h
          have := h l hl
          omega
        have HFS := Lib.hid (show fs = framesL ls by rw [HF.out.1, hkN, List.take_of_length_le (by rw [HN.out]; exact Nat.le_refl _)])
        have hF3 : F ≤ 3360 := by omega
        clear hlr hr3 hkN hb
        have hF0 : (Aa = none ∧ ca = 0 ∧ F = 0) ∨ ∃ g, Aa = some ⟨g, 0, none⟩ ∧ F ≤ ca := by
          rcases HO.out.2 with ⟨h, h0⟩ | ⟨g, cap, cur, h, _, _, h3, _⟩
          · injection h with ha hb2 hc2
            exact .inl ⟨ha, hc2, h0⟩
          · injection h with ha hb2 hc2
            exact .inr ⟨g, ha, by rw [hc2]; exact h3⟩
        have hFca : F ≤ ca := by
          rcases hF0 with ⟨_, h, h0⟩ | ⟨g, _, h⟩ <;> omega
        go_wp2_with fail
        refine (split_any Aa F ca fs wr HFL.out.symm (by omega) hFca (Reads.of_own HO.out)).mono ?_
        rintro e w2 ⟨v, rfl, hll, hb2⟩
        have hsp : spl fs = (ls, F, 0) := by rw [HFS.out, spl_frames ls HLS.out, ← HFS.out, ← HFL.out]
        rw [hsp] at hll ⊢
        clear hsp
        obtain ⟨A2, c2, rfl, _⟩ := hll.form
        have hll' : LL w2 wr.heap.size (.slice A2 ls.length c2) ls := hll
        have HB2 := Lib.hid (HB.out.trans (hb2.mono HB.out.size))
        have HO2 := Lib.hid (own_below HO.out hb2)
        have HLL := Lib.hid hll'
        have HSM : Hid (∀ W, Below w2.heap.size w2 W → Calls Try.prog 19 #[.slice A2 N c2, .slice A N c] W fun e w' => e = .returned (.bool true) ∧ ∃ m, w' = W.drewN m) := fun W hW => by
          have h := same_any A2 A c2 c ls ls W w2.heap.size (HLL.out.rl.below hW) (((HR.out.below HB2.out).more HB2.out.size).below hW) (by rw [← HN.out]; omega)
          rw [decide_eq_true rfl, ← HN.out] at h
          exact h
        clear hll hll' hb2
        have eN : (ls, F, 0).1.length = N := HN.out.symm
        rw [eN]
        clear eN
        go_wp2_with fail
        refine (HSM.out _ (Below.refl _ _)).mono ?_
        rintro e w2b ⟨rfl, nq, rfl⟩
        go_wp2_with fail
        clear HSM hlt
        refine (new_any (w2.drewN nq)).mono ?_
        rintro e w4 ⟨rfl, hw4⟩
        obtain ⟨w3, hw3⟩ : ∃ w3, w3 = w2.drewN nq := ⟨_, rfl⟩
        have HB3 := Lib.hid (show Below w.heap.size w w3 by rw [hw3]; exact HB2.out.trans (drewN_below (Below.refl _ _) _))
        have HO3 := Lib.hid (show w3.ownsRow w.heap.size 5 1 (.slice Aa F ca) F (bcells fs) by rw [hw3]; exact own_chg HO2.out ((Chg.refl (fun _ => False) w2).drewN nq) (fun _ _ e => e))
        rw [← hw3] at hw4 ⊢
        clear hw3 HO2 HB2 HLL
        obtain ⟨br, hbr⟩ : ∃ b, b = w3.heap.size := ⟨_, rfl⟩
        rw [← hbr]
        have hI0 : GInv w3 w4 br (br + 1) [] 0 [] none 0 none 0 := by
          have k1 : Blk w4 br 43 #[.bool true, .slice none 0 0, .int .i64 0, .int .i64 0] := by rw [← hw4, hbr]; exact Blk.new w3 43 _
          have hs4 : w4.heap.size = br + 1 := by rw [← hw4, hbr]; simp
          exact ⟨k1, World.ownsRow_nil _ _ _ _, LG.nil_ _ _ _, fun g h => by simp [Value.ownBlock] at h, by rw [← hw4, hbr]; exact (Below.refl _ _).alloc (Nat.le_refl _) _, by omega, by omega⟩
        have HI0 := Lib.hid hI0
        have hwbr : w.heap.size ≤ br := by rw [hbr]; exact HB3.out.size
        have HBR := Lib.hid hbr
        clear hI0 hw4 hbr HB HO hk
        go_wp2_with fail
        rcases hF0 with ⟨rfl, rfl, rfl⟩ | ⟨g, rfl, hFc⟩
        · rw [show ((0 : Nat) : Int) = 0 from rfl]
          obtain ⟨wo, rfl⟩ : ∃ wo : World, wo = wr := ⟨_, rfl⟩
          go_loopw [14, 15, 16] (fun s14 s15 s16 wr => ∃ (i q tk hi : Nat) (left : List UInt8) (gs : List (List UInt8)) (Av : Option Addr) (cv : Nat) (Ag : Option Addr) (cg : Nat), s14 = .slice Ag gs.length cg ∧ s15 = .int .i64 q ∧ s16 = .int .i64 i ∧ i ≤ M + 1 ∧ q ≤ 0 ∧ (i = M + 1 → q = 0) ∧ CutAt (framesL ls) q left tk gs ∧ GInv w3 wr br hi left tk gs Av cv Ag cg) (fun _ _ s16 _ => M + 1 - (intOf s16).toNat)
          case atStart => exact ⟨0, 0, 0, br + 1, [], [], none, 0, none, 0, rfl, rfl, rfl, by omega, by omega, by omega, CutAt.zero _, HI0.out⟩
          case round =>
            obtain ⟨i, q, tk, hi, left, gs, Av, cv, Ag, cg, rfl, rfl, rfl, hiM, hqF, hiq, hcut, hI⟩ := hrel
            have HC := Lib.hid hcut
            have HI1 := Lib.hid hI
            have hgs := (hcut.len (by rw [← HFS.out, ← HFL.out]; exact hqF)).2
            clear hcut hI
            obtain ⟨G, hG⟩ : ∃ G, G = gs.length := ⟨_, rfl⟩
            rw [← hG] at hgs ⊢
            have HG := Lib.hid hG
            clear hG
            by_cases hlt : i ≤ M
            · by_cases hlm : i < M
              · obtain rfl : q = 0 := by omega
                have hkl : i < cu.length := by rw [← HM.out]; exact hlm
                obtain ⟨bc, oc, rfl, hbc, hcc⟩ := HCU.out.place (by omega)
                have hcell : wr.cell? ⟨bc, oc + i, none⟩ = some (.int .i64 cu[i]) := ((HB3.out.trans (HI1.out.below.mono hwbr)).cell (p := ⟨bc, oc + i, none⟩) hbc).trans (hcc i _ (by rw [List.getElem?_map, List.getElem?_eq_getElem hkl]; rfl))
                obtain ⟨x, hx⟩ : ∃ x, x = cu[i] := ⟨_, rfl⟩
                rw [← hx] at hcell
                clear hx hkl hcc
                go_wp2_with fail
                clear hcell
                have h1 : 0 ≤ 0 := Nat.le_refl _
                have h2 : 0 ≤ 0 := Nat.le_refl _
                have hn : True := trivial
                have hiM2 : True := trivial
                have HN2 := Lib.hid (And.intro hn hiM2)
                have hl3 : (framesL ls).length ≤ 30000 := by rw [← HFS.out, ← HFL.out]; omega
                have h2f : 0 ≤ (framesL ls).length := by rw [← HFS.out, ← HFL.out]; exact h2
                have HRA : Hid (Reads wr br 1 none 0 (bcells (framesL ls))) := by rw [← HFS.out]; exact (HBR.out ▸ Reads.of_own HO3.out).below HI1.out.below
                refine (feed_step HLS.out hl3 h1 h2f HC.out HI1.out _ _ _ (by omega) ((read_piece HRA.out h1 h2 _ _ (by omega) (.inl (by omega))).more (Nat.le_of_succ_le HI1.out.size))).mono ?_
                rintro e w5 ⟨Al, cl, ms, left2, tk2, mid, Av2, cv2, rfl, hmid, hcut2⟩
                have HMD := Lib.hid hmid
                have HC2 := Lib.hid hcut2
                have hlen2 := hcut2.len h2f
                rw [List.length_append, ← HG.out] at hlen2
                obtain ⟨L, hL⟩ : ∃ L, L = left2.length := ⟨_, rfl⟩
                obtain ⟨m, hm⟩ : ∃ m, m = ms.length := ⟨_, rfl⟩
                rw [← hL, ← hm] at hlen2
                rw [← hm]
                obtain ⟨hlt2, hgm2⟩ := hlen2
                have hrd : Rdr w5 br (.slice Av2 L cv2) tk2 0 := by rw [hL]; exact hmid.i.r
                have HRD := Lib.hid hrd
                have HL := Lib.hid (And.intro hL hm)
                obtain rfl : L = 0 := by omega
                obtain rfl : tk2 = 0 := by omega
                have hltz : (0 : Int) + (0 : Int) = (0 : Int) := by omega
                clear hmid hcut2 hL hm hrd hlt2 hn hiM2
                go_wp2_with fail
                refine (left_any br Av2 0 cv2 0 0 _ HRD.out).mono ?_
                rintro e w5b ⟨rfl, h5b⟩
                rw [h5b]
                clear h5b w5b
                go_wp2_with fail
                refine (taken_any br _ 0 0 _ HRD.out).mono ?_
                rintro e w5b ⟨rfl, h5b⟩
                rw [h5b]
                clear h5b w5b
                have hmid2 := HMD.out
                obtain ⟨w6, rfl⟩ : ∃ w6, w6 = w5 := ⟨_, rfl⟩
                obtain ⟨us, us2, ha1, ha2, ha3, ha4⟩ := hmid2.app
                rw [← HG.out] at ha1 ha4
                rw [← HL.out.2] at ha2 ha4
                have HA := Lib.hid (And.intro ha1 (And.intro ha2 (And.intro ha3 (And.intro ha4 hmid2.i.size))))
                clear HMD HRD hmid2 ha1 ha2 ha3 ha4
                obtain ⟨_, hi', hy0, hy1, hy2⟩ := HI.out
                go_wp2_with (at_builtin; refine wpList_append_any _ rfl (.tmp 133) (.tmp 134) 35 rfl (br + 1) 22 i1 (.slice none 0 0) 1 24 Try.underlying35 hi' hy0 hy1 hy2 rfl (by decide) (.slice Ag G cg) G us rfl HA.out.1 w6.heap.size Al m cl us2 rfl HA.out.2.1 HA.out.2.2.1 (by unfold maxLen; omega) (by omega) HA.out.2.2.2.2 ?_; intro v7 w7 ho7 hg7 hat7; obtain ⟨A7, c7, rfl, _⟩ := own_form ho7; have HI7 := Lib.hid (HA.out.2.2.2.1 A7 c7 w7 ho7 hg7); clear ho7 hg7 hat7)
                have HRA7 : Hid (Reads w7 br 1 none 0 (bcells (framesL ls))) := by rw [← HFS.out]; exact (HBR.out ▸ Reads.of_own HO3.out).below HI7.out.below
                refine (split_step HLS.out hl3 h2f HC2.out _ _ _ rfl (by omega) ((read_to HRA7.out h2).more (Nat.le_of_succ_le HI7.out.size))).mono ?_
                rintro e w8 ⟨Ak, ck, er, rfl, her, hb8⟩
                have HI8 := Lib.hid (HI7.out.chg (Chg.of_below hb8))
                have HEL := Lib.hid (show (gs ++ ms).length = G + m by rw [List.length_append, HG.out, HL.out.2])
                rw [HEL.out]
                have hrd8 : Rdr w8 br (.slice Av2 0 cv2) 0 0 := by have h := HI8.out.r; rw [← HL.out.1] at h; exact h
                have HRD8 := Lib.hid hrd8
                rw [← HL.out.1] at her
                clear hb8 hrd8 HI7 HRA7 HA HRA
                rcases her with ⟨rfl, h0⟩ | ⟨rfl, h0⟩
                · go_wp2_with fail
                  refine (left_any br Av2 0 cv2 0 0 _ HRD8.out).mono ?_
                  rintro e w8b ⟨rfl, h8b⟩
                  rw [h8b]
                  clear h8b w8b
                  go_wp2_with fail
                  refine (taken_any br _ 0 0 _ HRD8.out).mono ?_
                  rintro e w8b ⟨rfl, h8b⟩
                  rw [h8b]
                  clear h8b w8b
                  go_wp2_with fail
                  go_roundw
                  case rel => exact ⟨i + 1, 0, 0, mid, left2, gs ++ ms, Av2, cv2, A7, c7, by rw [HEL.out], rfl, by go_num, by omega, h2, fun _ => rfl, HC2.out, HI8.out⟩
                  case measure => first | (simp [intOf]; done) | (simp [intOf]; omega)
                · exact absurd h0 (by omega)
              · obtain rfl : q = 0 := by omega
                have him : i = M := by omega
                subst him
                go_wp2_with fail
                have h1 : 0 ≤ 0 := Nat.le_refl _
                have h2 : 0 ≤ 0 := Nat.le_refl _
                have hn : True := trivial
                have hiM2 : True := trivial
                have HN2 := Lib.hid (And.intro hn hiM2)
                have hl3 : (framesL ls).length ≤ 30000 := by rw [← HFS.out, ← HFL.out]; omega
                have h2f : 0 ≤ (framesL ls).length := by rw [← HFS.out, ← HFL.out]; exact h2
                have HRA : Hid (Reads wr br 1 none 0 (bcells (framesL ls))) := by rw [← HFS.out]; exact (HBR.out ▸ Reads.of_own HO3.out).below HI1.out.below
                refine (feed_step HLS.out hl3 h1 h2f HC.out HI1.out _ _ _ (by omega) ((read_piece HRA.out h1 h2 _ _ (by omega) (.inl (by omega))).more (Nat.le_of_succ_le HI1.out.size))).mono ?_
                rintro e w5 ⟨Al, cl, ms, left2, tk2, mid, Av2, cv2, rfl, hmid, hcut2⟩
                have HMD := Lib.hid hmid
                have HC2 := Lib.hid hcut2
                have hlen2 := hcut2.len h2f
                rw [List.length_append, ← HG.out] at hlen2
                obtain ⟨L, hL⟩ : ∃ L, L = left2.length := ⟨_, rfl⟩
                obtain ⟨m, hm⟩ : ∃ m, m = ms.length := ⟨_, rfl⟩
                rw [← hL, ← hm] at hlen2
                rw [← hm]
                obtain ⟨hlt2, hgm2⟩ := hlen2
                have hrd : Rdr w5 br (.slice Av2 L cv2) tk2 0 := by rw [hL]; exact hmid.i.r
                have HRD := Lib.hid hrd
                have HL := Lib.hid (And.intro hL hm)
                obtain rfl : L = 0 := by omega
                obtain rfl : tk2 = 0 := by omega
                have hltz : (0 : Int) + (0 : Int) = (0 : Int) := by omega
                clear hmid hcut2 hL hm hrd hlt2 hn hiM2
                go_wp2_with fail
                refine (left_any br Av2 0 cv2 0 0 _ HRD.out).mono ?_
                rintro e w5b ⟨rfl, h5b⟩
                rw [h5b]
                clear h5b w5b
                go_wp2_with fail
                refine (taken_any br _ 0 0 _ HRD.out).mono ?_
                rintro e w5b ⟨rfl, h5b⟩
                rw [h5b]
                clear h5b w5b
                have hmid2 := HMD.out
                obtain ⟨w6, rfl⟩ : ∃ w6, w6 = w5 := ⟨_, rfl⟩
                obtain ⟨us, us2, ha1, ha2, ha3, ha4⟩ := hmid2.app
                rw [← HG.out] at ha1 ha4
                rw [← HL.out.2] at ha2 ha4
                have HA := Lib.hid (And.intro ha1 (And.intro ha2 (And.intro ha3 (And.intro ha4 hmid2.i.size))))
                clear HMD HRD hmid2 ha1 ha2 ha3 ha4
                obtain ⟨_, hi', hy0, hy1, hy2⟩ := HI.out
                go_wp2_with (at_builtin; refine wpList_append_any _ rfl (.tmp 133) (.tmp 134) 35 rfl (br + 1) 22 i1 (.slice none 0 0) 1 24 Try.underlying35 hi' hy0 hy1 hy2 rfl (by decide) (.slice Ag G cg) G us rfl HA.out.1 w6.heap.size Al m cl us2 rfl HA.out.2.1 HA.out.2.2.1 (by unfold maxLen; omega) (by omega) HA.out.2.2.2.2 ?_; intro v7 w7 ho7 hg7 hat7; obtain ⟨A7, c7, rfl, _⟩ := own_form ho7; have HI7 := Lib.hid (HA.out.2.2.2.1 A7 c7 w7 ho7 hg7); clear ho7 hg7 hat7)
                have HRA7 : Hid (Reads w7 br 1 none 0 (bcells (framesL ls))) := by rw [← HFS.out]; exact (HBR.out ▸ Reads.of_own HO3.out).below HI7.out.below
                refine (split_step HLS.out hl3 h2f HC2.out _ _ _ rfl (by omega) ((read_to HRA7.out h2).more (Nat.le_of_succ_le HI7.out.size))).mono ?_
                rintro e w8 ⟨Ak, ck, er, rfl, her, hb8⟩
                have HI8 := Lib.hid (HI7.out.chg (Chg.of_below hb8))
                have HEL := Lib.hid (show (gs ++ ms).length = G + m by rw [List.length_append, HG.out, HL.out.2])
                rw [HEL.out]
                have hrd8 : Rdr w8 br (.slice Av2 0 cv2) 0 0 := by have h := HI8.out.r; rw [← HL.out.1] at h; exact h
                have HRD8 := Lib.hid hrd8
                rw [← HL.out.1] at her
                clear hb8 hrd8 HI7 HRA7 HA HRA
                rcases her with ⟨rfl, h0⟩ | ⟨rfl, h0⟩
                · go_wp2_with fail
                  refine (left_any br Av2 0 cv2 0 0 _ HRD8.out).mono ?_
                  rintro e w8b ⟨rfl, h8b⟩
                  rw [h8b]
                  clear h8b w8b
                  go_wp2_with fail
                  refine (taken_any br _ 0 0 _ HRD8.out).mono ?_
                  rintro e w8b ⟨rfl, h8b⟩
                  rw [h8b]
                  clear h8b w8b
                  go_wp2_with fail
                  go_roundw
                  case rel => exact ⟨i + 1, 0, 0, mid, left2, gs ++ ms, Av2, cv2, A7, c7, by rw [HEL.out], rfl, by go_num, by omega, h2, fun _ => rfl, HC2.out, HI8.out⟩
                  case measure => first | (simp [intOf]; done) | (simp [intOf]; omega)
                · exact absurd h0 (by omega)
            · have hqF2 : q = 0 := hiq (by omega)
              have e : (framesL ls).length = q := by rw [← HFS.out, ← HFL.out, hqF2]
              obtain ⟨hl0, hgl⟩ := CutAt.done HLS.out (left := left) (tk := tk) (gs := gs) (by rw [e]; exact HC.out)
              have hrd : Rdr wr br (.slice Av 0 cv) tk 0 := by
                have := HI1.out.r
                rw [hl0] at this
                exact this
              have hGN : G = N := by rw [HG.out, hgl, ← HN.out]
              have hbw : Below w.heap.size w wr := HB3.out.trans (HI1.out.below.mono hwbr)
              have hrl : RL wr wr.heap.size Ag ls := by
                have := HI1.out.got.rl
                rw [hgl] at this
                exact this
              have hsm := same_any Ag A cg c ls ls wr wr.heap.size hrl ((HR.out.below hbw).more hbw.size) (by rw [← HN.out]; omega)
              rw [decide_eq_true rfl, ← HN.out] at hsm
              have HS := Lib.hid (And.intro hsm (And.intro hbw hrd))
              rw [hGN]
              clear hsm hbw hrl hrd hGN hgl hl0 e hqF2
              go_wp2_with fail
              refine HS.out.1.mono ?_
              rintro e wz ⟨rfl, nz, rfl⟩
              go_wp2_with fail
              refine (left_any br Av 0 cv tk 0 _ (HS.out.2.2.chg ((Chg.refl (fun _ => False) wr).drewN nz) (fun e => e))).mono ?_
              rintro e wy ⟨rfl, hy⟩
              rw [hy]
              clear hy wy
              go_wp2_with fail
              go_ret
              exact ⟨rfl, drewN_below HS.out.2.1 nz⟩
        · skip
          obtain ⟨wo, rfl⟩ : ∃ wo : World, wo = wr := ⟨_, rfl⟩
          go_loopw [14, 15, 16] (fun s14 s15 s16 wr => ∃ (i q tk hi : Nat) (left : List UInt8) (gs : List (List UInt8)) (Av : Option Addr) (cv : Nat) (Ag : Option Addr) (cg : Nat), s14 = .slice Ag gs.length cg ∧ s15 = .int .i64 q ∧ s16 = .int .i64 i ∧ i ≤ M + 1 ∧ q ≤ F ∧ (i = M + 1 → q = F) ∧ CutAt (framesL ls) q left tk gs ∧ GInv w3 wr br hi left tk gs Av cv Ag cg) (fun _ _ s16 _ => M + 1 - (intOf s16).toNat)
          case atStart => exact ⟨0, 0, 0, br + 1, [], [], none, 0, none, 0, rfl, rfl, rfl, by omega, by omega, by omega, CutAt.zero _, HI0.out⟩
          case round =>
            obtain ⟨i, q, tk, hi, left, gs, Av, cv, Ag, cg, rfl, rfl, rfl, hiM, hqF, hiq, hcut, hI⟩ := hrel
            have HC := Lib.hid hcut
            have HI1 := Lib.hid hI
            have hgs := (hcut.len (by rw [← HFS.out, ← HFL.out]; exact hqF)).2
            clear hcut hI
            obtain ⟨G, hG⟩ : ∃ G, G = gs.length := ⟨_, rfl⟩
            rw [← hG] at hgs ⊢
            have HG := Lib.hid hG
            clear hG
            by_cases hlt : i ≤ M
            · by_cases hcq : ca = q
              · by_cases hlm : i < M
                · have ecF : ca = F := by omega
                  have eqF : q = F := by omega
                  subst ecF eqF
                  have hkl : i < cu.length := by rw [← HM.out]; exact hlm
                  obtain ⟨bc, oc, rfl, hbc, hcc⟩ := HCU.out.place (by omega)
                  have hcell : wr.cell? ⟨bc, oc + i, none⟩ = some (.int .i64 cu[i]) := ((HB3.out.trans (HI1.out.below.mono hwbr)).cell (p := ⟨bc, oc + i, none⟩) hbc).trans (hcc i _ (by rw [List.getElem?_map, List.getElem?_eq_getElem hkl]; rfl))
                  obtain ⟨x, hx⟩ : ∃ x, x = cu[i] := ⟨_, rfl⟩
                  rw [← hx] at hcell
                  clear hx hkl hcc
                  go_wp2_with fail
                  clear hcell
                  have h1 : q ≤ q := Nat.le_refl _
                  have h2 : q ≤ q := Nat.le_refl _
                  have hn : True := trivial
                  have hiM2 : True := trivial
                  have HN2 := Lib.hid (And.intro hn hiM2)
                  have hl3 : (framesL ls).length ≤ 30000 := by rw [← HFS.out, ← HFL.out]; omega
                  have h2f : q ≤ (framesL ls).length := by rw [← HFS.out, ← HFL.out]; exact h2
                  have HRA : Hid (Reads wr br 1 (some ⟨g, 0, none⟩) q (bcells (framesL ls))) := by rw [← HFS.out]; exact (HBR.out ▸ Reads.of_own HO3.out).below HI1.out.below
                  refine (feed_step HLS.out hl3 h1 h2f HC.out HI1.out _ _ _ (by omega) ((read_piece HRA.out h1 h2 _ _ (by omega) (.inl (by omega))).more (Nat.le_of_succ_le HI1.out.size))).mono ?_
                  rintro e w5 ⟨Al, cl, ms, left2, tk2, mid, Av2, cv2, rfl, hmid, hcut2⟩
                  have HMD := Lib.hid hmid
                  have HC2 := Lib.hid hcut2
                  have hlen2 := hcut2.len h2f
                  rw [List.length_append, ← HG.out] at hlen2
                  obtain ⟨L, hL⟩ : ∃ L, L = left2.length := ⟨_, rfl⟩
                  obtain ⟨m, hm⟩ : ∃ m, m = ms.length := ⟨_, rfl⟩
                  rw [← hL, ← hm] at hlen2
                  rw [← hm]
                  obtain ⟨hlt2, hgm2⟩ := hlen2
                  have hrd : Rdr w5 br (.slice Av2 L cv2) tk2 0 := by rw [hL]; exact hmid.i.r
                  have HRD := Lib.hid hrd
                  have HL := Lib.hid (And.intro hL hm)
                  have hltz : (L : Int) + (tk2 : Int) = (q : Int) := by omega
                  clear hmid hcut2 hL hm hrd hlt2 hn hiM2
                  go_wp2_with fail
                  refine (left_any br Av2 L cv2 tk2 0 _ HRD.out).mono ?_
                  rintro e w5b ⟨rfl, h5b⟩
                  rw [h5b]
                  clear h5b w5b
                  go_wp2_with fail
                  refine (taken_any br _ tk2 0 _ HRD.out).mono ?_
                  rintro e w5b ⟨rfl, h5b⟩
                  rw [h5b]
                  clear h5b w5b
                  have hmid2 := HMD.out
                  obtain ⟨w6, rfl⟩ : ∃ w6, w6 = w5 := ⟨_, rfl⟩
                  obtain ⟨us, us2, ha1, ha2, ha3, ha4⟩ := hmid2.app
                  rw [← HG.out] at ha1 ha4
                  rw [← HL.out.2] at ha2 ha4
                  have HA := Lib.hid (And.intro ha1 (And.intro ha2 (And.intro ha3 (And.intro ha4 hmid2.i.size))))
                  clear HMD HRD hmid2 ha1 ha2 ha3 ha4
                  obtain ⟨_, hi', hy0, hy1, hy2⟩ := HI.out
                  go_wp2_with (at_builtin; refine wpList_append_any _ rfl (.tmp 133) (.tmp 134) 35 rfl (br + 1) 22 i1 (.slice none 0 0) 1 24 Try.underlying35 hi' hy0 hy1 hy2 rfl (by decide) (.slice Ag G cg) G us rfl HA.out.1 w6.heap.size Al m cl us2 rfl HA.out.2.1 HA.out.2.2.1 (by unfold maxLen; omega) (by omega) HA.out.2.2.2.2 ?_; intro v7 w7 ho7 hg7 hat7; obtain ⟨A7, c7, rfl, _⟩ := own_form ho7; have HI7 := Lib.hid (HA.out.2.2.2.1 A7 c7 w7 ho7 hg7); clear ho7 hg7 hat7)
                  have HRA7 : Hid (Reads w7 br 1 (some ⟨g, 0, none⟩) q (bcells (framesL ls))) := by rw [← HFS.out]; exact (HBR.out ▸ Reads.of_own HO3.out).below HI7.out.below
                  refine (split_step HLS.out hl3 h2f HC2.out _ _ _ rfl (by omega) ((read_to HRA7.out h2).more (Nat.le_of_succ_le HI7.out.size))).mono ?_
                  rintro e w8 ⟨Ak, ck, er, rfl, her, hb8⟩
                  have HI8 := Lib.hid (HI7.out.chg (Chg.of_below hb8))
                  have HEL := Lib.hid (show (gs ++ ms).length = G + m by rw [List.length_append, HG.out, HL.out.2])
                  rw [HEL.out]
                  have hrd8 : Rdr w8 br (.slice Av2 L cv2) tk2 0 := by have h := HI8.out.r; rw [← HL.out.1] at h; exact h
                  have HRD8 := Lib.hid hrd8
                  rw [← HL.out.1] at her
                  clear hb8 hrd8 HI7 HRA7 HA HRA
                  rcases her with ⟨rfl, h0⟩ | ⟨rfl, h0⟩
                  · go_wp2_with fail
                    refine (left_any br Av2 L cv2 tk2 0 _ HRD8.out).mono ?_
                    rintro e w8b ⟨rfl, h8b⟩
                    rw [h8b]
                    clear h8b w8b
                    go_wp2_with fail
                    refine (taken_any br _ tk2 0 _ HRD8.out).mono ?_
                    rintro e w8b ⟨rfl, h8b⟩
                    rw [h8b]
                    clear h8b w8b
                    go_wp2_with fail
                    go_roundw
                    case rel => exact ⟨i + 1, q, tk2, mid, left2, gs ++ ms, Av2, cv2, A7, c7, by rw [HEL.out], rfl, by go_num, by omega, h2, fun _ => rfl, HC2.out, HI8.out⟩
                    case measure => first | (simp [intOf]; done) | (simp [intOf]; omega)
                  · go_wp2_with fail
                    refine (left_any br Av2 L cv2 tk2 0 _ HRD8.out).mono ?_
                    rintro e w8b ⟨rfl, h8b⟩
                    rw [h8b]
                    clear h8b w8b
                    go_wp2_with fail
                    refine (taken_any br _ tk2 0 _ HRD8.out).mono ?_
                    rintro e w8b ⟨rfl, h8b⟩
                    rw [h8b]
                    clear h8b w8b
                    go_wp2_with fail
                    go_roundw
                    case rel => exact ⟨i + 1, q, tk2, mid, left2, gs ++ ms, Av2, cv2, A7, c7, by rw [HEL.out], rfl, by go_num, by omega, h2, fun _ => rfl, HC2.out, HI8.out⟩
                    case measure => first | (simp [intOf]; done) | (simp [intOf]; omega)
                · have ecF : ca = F := by omega
                  have eqF : q = F := by omega
                  subst ecF eqF
                  have him : i = M := by omega
                  subst him
                  go_wp2_with fail
                  have h1 : q ≤ q := Nat.le_refl _
                  have h2 : q ≤ q := Nat.le_refl _
                  have hn : True := trivial
                  have hiM2 : True := trivial
                  have HN2 := Lib.hid (And.intro hn hiM2)
                  have hl3 : (framesL ls).length ≤ 30000 := by rw [← HFS.out, ← HFL.out]; omega
                  have h2f : q ≤ (framesL ls).length := by rw [← HFS.out, ← HFL.out]; exact h2
                  have HRA : Hid (Reads wr br 1 (some ⟨g, 0, none⟩) q (bcells (framesL ls))) := by rw [← HFS.out]; exact (HBR.out ▸ Reads.of_own HO3.out).below HI1.out.below
                  refine (feed_step HLS.out hl3 h1 h2f HC.out HI1.out _ _ _ (by omega) ((read_piece HRA.out h1 h2 _ _ (by omega) (.inl (by omega))).more (Nat.le_of_succ_le HI1.out.size))).mono ?_
                  rintro e w5 ⟨Al, cl, ms, left2, tk2, mid, Av2, cv2, rfl, hmid, hcut2⟩
                  have HMD := Lib.hid hmid
                  have HC2 := Lib.hid hcut2
                  have hlen2 := hcut2.len h2f
                  rw [List.length_append, ← HG.out] at hlen2
                  obtain ⟨L, hL⟩ : ∃ L, L = left2.length := ⟨_, rfl⟩
                  obtain ⟨m, hm⟩ : ∃ m, m = ms.length := ⟨_, rfl⟩
                  rw [← hL, ← hm] at hlen2
                  rw [← hm]
                  obtain ⟨hlt2, hgm2⟩ := hlen2
                  have hrd : Rdr w5 br (.slice Av2 L cv2) tk2 0 := by rw [hL]; exact hmid.i.r
                  have HRD := Lib.hid hrd
                  have HL := Lib.hid (And.intro hL hm)
                  have hltz : (L : Int) + (tk2 : Int) = (q : Int) := by omega
                  clear hmid hcut2 hL hm hrd hlt2 hn hiM2
                  go_wp2_with fail
                  refine (left_any br Av2 L cv2 tk2 0 _ HRD.out).mono ?_
                  rintro e w5b ⟨rfl, h5b⟩
                  rw [h5b]
                  clear h5b w5b
                  go_wp2_with fail
                  refine (taken_any br _ tk2 0 _ HRD.out).mono ?_
                  rintro e w5b ⟨rfl, h5b⟩
                  rw [h5b]
                  clear h5b w5b
                  have hmid2 := HMD.out
                  obtain ⟨w6, rfl⟩ : ∃ w6, w6 = w5 := ⟨_, rfl⟩
                  obtain ⟨us, us2, ha1, ha2, ha3, ha4⟩ := hmid2.app
                  rw [← HG.out] at ha1 ha4
                  rw [← HL.out.2] at ha2 ha4
                  have HA := Lib.hid (And.intro ha1 (And.intro ha2 (And.intro ha3 (And.intro ha4 hmid2.i.size))))
                  clear HMD HRD hmid2 ha1 ha2 ha3 ha4
                  obtain ⟨_, hi', hy0, hy1, hy2⟩ := HI.out
                  go_wp2_with (at_builtin; refine wpList_append_any _ rfl (.tmp 133) (.tmp 134) 35 rfl (br + 1) 22 i1 (.slice none 0 0) 1 24 Try.underlying35 hi' hy0 hy1 hy2 rfl (by decide) (.slice Ag G cg) G us rfl HA.out.1 w6.heap.size Al m cl us2 rfl HA.out.2.1 HA.out.2.2.1 (by unfold maxLen; omega) (by omega) HA.out.2.2.2.2 ?_; intro v7 w7 ho7 hg7 hat7; obtain ⟨A7, c7, rfl, _⟩ := own_form ho7; have HI7 := Lib.hid (HA.out.2.2.2.1 A7 c7 w7 ho7 hg7); clear ho7 hg7 hat7)
                  have HRA7 : Hid (Reads w7 br 1 (some ⟨g, 0, none⟩) q (bcells (framesL ls))) := by rw [← HFS.out]; exact (HBR.out ▸ Reads.of_own HO3.out).below HI7.out.below
                  refine (split_step HLS.out hl3 h2f HC2.out _ _ _ rfl (by omega) ((read_to HRA7.out h2).more (Nat.le_of_succ_le HI7.out.size))).mono ?_
                  rintro e w8 ⟨Ak, ck, er, rfl, her, hb8⟩
                  have HI8 := Lib.hid (HI7.out.chg (Chg.of_below hb8))
                  have HEL := Lib.hid (show (gs ++ ms).length = G + m by rw [List.length_append, HG.out, HL.out.2])
                  rw [HEL.out]
                  have hrd8 : Rdr w8 br (.slice Av2 L cv2) tk2 0 := by have h := HI8.out.r; rw [← HL.out.1] at h; exact h
                  have HRD8 := Lib.hid hrd8
                  rw [← HL.out.1] at her
                  clear hb8 hrd8 HI7 HRA7 HA HRA
                  rcases her with ⟨rfl, h0⟩ | ⟨rfl, h0⟩
                  · go_wp2_with fail
                    refine (left_any br Av2 L cv2 tk2 0 _ HRD8.out).mono ?_
                    rintro e w8b ⟨rfl, h8b⟩
                    rw [h8b]
                    clear h8b w8b
                    go_wp2_with fail
                    refine (taken_any br _ tk2 0 _ HRD8.out).mono ?_
                    rintro e w8b ⟨rfl, h8b⟩
                    rw [h8b]
                    clear h8b w8b
                    go_wp2_with fail
                    go_roundw
                    case rel => exact ⟨i + 1, q, tk2, mid, left2, gs ++ ms, Av2, cv2, A7, c7, by rw [HEL.out], rfl, by go_num, by omega, h2, fun _ => rfl, HC2.out, HI8.out⟩
                    case measure => first | (simp [intOf]; done) | (simp [intOf]; omega)
                  · go_wp2_with fail
                    refine (left_any br Av2 L cv2 tk2 0 _ HRD8.out).mono ?_
                    rintro e w8b ⟨rfl, h8b⟩
                    rw [h8b]
                    clear h8b w8b
                    go_wp2_with fail
                    refine (taken_any br _ tk2 0 _ HRD8.out).mono ?_
                    rintro e w8b ⟨rfl, h8b⟩
                    rw [h8b]
                    clear h8b w8b
                    go_wp2_with fail
                    go_roundw
                    case rel => exact ⟨i + 1, q, tk2, mid, left2, gs ++ ms, Av2, cv2, A7, c7, by rw [HEL.out], rfl, by go_num, by omega, h2, fun _ => rfl, HC2.out, HI8.out⟩
                    case measure => first | (simp [intOf]; done) | (simp [intOf]; omega)
              · by_cases hlm : i < M
                · have hkl : i < cu.length := by rw [← HM.out]; exact hlm
                  obtain ⟨bc, oc, rfl, hbc, hcc⟩ := HCU.out.place (by omega)
                  have hcell : wr.cell? ⟨bc, oc + i, none⟩ = some (.int .i64 cu[i]) := ((HB3.out.trans (HI1.out.below.mono hwbr)).cell (p := ⟨bc, oc + i, none⟩) hbc).trans (hcc i _ (by rw [List.getElem?_map, List.getElem?_eq_getElem hkl]; rfl))
                  obtain ⟨x, hx⟩ : ∃ x, x = cu[i] := ⟨_, rfl⟩
                  rw [← hx] at hcell
                  obtain ⟨kk, hkk, hkk2⟩ := cut_of x (F - q) (by omega)
                  have hFq : ((F - q : Nat) : Int) = (F : Int) - (q : Int) := by omega
                  rw [hFq] at hkk
                  have hq1 : q ≤ q + kk := by omega
                  have hq2 : q + kk ≤ F := by omega
                  clear hx hkl hcc hFq
                  go_wp2_with fail
                  have etq : (q : Int) + (kk : Int) = ((q + kk : Nat) : Int) := by omega
                  obtain ⟨tq, htq⟩ : ∃ t, t = q + kk := ⟨_, rfl⟩
                  rw [etq, ← htq]
                  have h1 : q ≤ tq := by omega
                  have h2 : tq ≤ F := by omega
                  have hn : kk = tq - q := by omega
                  have hiM2 : i + 1 = M + 1 → tq = F := by omega
                  clear etq htq hcell hkk hkk2 hq1 hq2
                  have HN2 := Lib.hid (And.intro hn hiM2)
                  have hl3 : (framesL ls).length ≤ 30000 := by rw [← HFS.out, ← HFL.out]; omega
                  have h2f : tq ≤ (framesL ls).length := by rw [← HFS.out, ← HFL.out]; exact h2
                  have HRA : Hid (Reads wr br 1 (some ⟨g, 0, none⟩) F (bcells (framesL ls))) := by rw [← HFS.out]; exact (HBR.out ▸ Reads.of_own HO3.out).below HI1.out.below
                  refine (feed_step HLS.out hl3 h1 h2f HC.out HI1.out _ _ _ HN2.out.1 ((read_piece HRA.out h1 h2 _ _ HN2.out.1 (.inr ⟨g, rfl, rfl⟩)).more (Nat.le_of_succ_le HI1.out.size))).mono ?_
                  rintro e w5 ⟨Al, cl, ms, left2, tk2, mid, Av2, cv2, rfl, hmid, hcut2⟩
                  have HMD := Lib.hid hmid
                  have HC2 := Lib.hid hcut2
                  have hlen2 := hcut2.len h2f
                  rw [List.length_append, ← HG.out] at hlen2
                  obtain ⟨L, hL⟩ : ∃ L, L = left2.length := ⟨_, rfl⟩
                  obtain ⟨m, hm⟩ : ∃ m, m = ms.length := ⟨_, rfl⟩
                  rw [← hL, ← hm] at hlen2
                  rw [← hm]
                  obtain ⟨hlt2, hgm2⟩ := hlen2
                  have hrd : Rdr w5 br (.slice Av2 L cv2) tk2 0 := by rw [hL]; exact hmid.i.r
                  have HRD := Lib.hid hrd
                  have HL := Lib.hid (And.intro hL hm)
                  have hltz : (L : Int) + (tk2 : Int) = (tq : Int) := by omega
                  clear hmid hcut2 hL hm hrd hlt2 hn hiM2
                  go_wp2_with fail
                  refine (left_any br Av2 L cv2 tk2 0 _ HRD.out).mono ?_
                  rintro e w5b ⟨rfl, h5b⟩
                  rw [h5b]
                  clear h5b w5b
                  go_wp2_with fail
                  refine (taken_any br _ tk2 0 _ HRD.out).mono ?_
                  rintro e w5b ⟨rfl, h5b⟩
                  rw [h5b]
                  clear h5b w5b
                  have hmid2 := HMD.out
                  obtain ⟨w6, rfl⟩ : ∃ w6, w6 = w5 := ⟨_, rfl⟩
                  obtain ⟨us, us2, ha1, ha2, ha3, ha4⟩ := hmid2.app
                  rw [← HG.out] at ha1 ha4
                  rw [← HL.out.2] at ha2 ha4
                  have HA := Lib.hid (And.intro ha1 (And.intro ha2 (And.intro ha3 (And.intro ha4 hmid2.i.size))))
                  clear HMD HRD hmid2 ha1 ha2 ha3 ha4
                  obtain ⟨_, hi', hy0, hy1, hy2⟩ := HI.out
                  go_wp2_with (at_builtin; refine wpList_append_any _ rfl (.tmp 133) (.tmp 134) 35 rfl (br + 1) 22 i1 (.slice none 0 0) 1 24 Try.underlying35 hi' hy0 hy1 hy2 rfl (by decide) (.slice Ag G cg) G us rfl HA.out.1 w6.heap.size Al m cl us2 rfl HA.out.2.1 HA.out.2.2.1 (by unfold maxLen; omega) (by omega) HA.out.2.2.2.2 ?_; intro v7 w7 ho7 hg7 hat7; obtain ⟨A7, c7, rfl, _⟩ := own_form ho7; have HI7 := Lib.hid (HA.out.2.2.2.1 A7 c7 w7 ho7 hg7); clear ho7 hg7 hat7)
                  have HRA7 : Hid (Reads w7 br 1 (some ⟨g, 0, none⟩) F (bcells (framesL ls))) := by rw [← HFS.out]; exact (HBR.out ▸ Reads.of_own HO3.out).below HI7.out.below
                  refine (split_step HLS.out hl3 h2f HC2.out _ _ _ rfl (by omega) ((read_to HRA7.out h2).more (Nat.le_of_succ_le HI7.out.size))).mono ?_
                  rintro e w8 ⟨Ak, ck, er, rfl, her, hb8⟩
                  have HI8 := Lib.hid (HI7.out.chg (Chg.of_below hb8))
                  have HEL := Lib.hid (show (gs ++ ms).length = G + m by rw [List.length_append, HG.out, HL.out.2])
                  rw [HEL.out]
                  have hrd8 : Rdr w8 br (.slice Av2 L cv2) tk2 0 := by have h := HI8.out.r; rw [← HL.out.1] at h; exact h
                  have HRD8 := Lib.hid hrd8
                  rw [← HL.out.1] at her
                  clear hb8 hrd8 HI7 HRA7 HA HRA
                  rcases her with ⟨rfl, h0⟩ | ⟨rfl, h0⟩
                  · go_wp2_with fail
                    refine (left_any br Av2 L cv2 tk2 0 _ HRD8.out).mono ?_
                    rintro e w8b ⟨rfl, h8b⟩
                    rw [h8b]
                    clear h8b w8b
                    go_wp2_with fail
                    refine (taken_any br _ tk2 0 _ HRD8.out).mono ?_
                    rintro e w8b ⟨rfl, h8b⟩
                    rw [h8b]
                    clear h8b w8b
                    go_wp2_with fail
                    go_roundw
                    case rel => exact ⟨i + 1, tq, tk2, mid, left2, gs ++ ms, Av2, cv2, A7, c7, by rw [HEL.out], rfl, by go_num, by omega, h2, HN2.out.2, HC2.out, HI8.out⟩
                    case measure => first | (simp [intOf]; done) | (simp [intOf]; omega)
                  · go_wp2_with fail
                    refine (left_any br Av2 L cv2 tk2 0 _ HRD8.out).mono ?_
                    rintro e w8b ⟨rfl, h8b⟩
                    rw [h8b]
                    clear h8b w8b
                    go_wp2_with fail
                    refine (taken_any br _ tk2 0 _ HRD8.out).mono ?_
                    rintro e w8b ⟨rfl, h8b⟩
                    rw [h8b]
                    clear h8b w8b
                    go_wp2_with fail
                    go_roundw
                    case rel => exact ⟨i + 1, tq, tk2, mid, left2, gs ++ ms, Av2, cv2, A7, c7, by rw [HEL.out], rfl, by go_num, by omega, h2, HN2.out.2, HC2.out, HI8.out⟩
                    case measure => first | (simp [intOf]; done) | (simp [intOf]; omega)
                · have him : i = M := by omega
                  subst him
                  go_wp2_with fail
                  have h1 : q ≤ F := hqF
                  have h2 : F ≤ F := Nat.le_refl _
                  have hn : F - q = F - q := rfl
                  have hiM2 : i + 1 = i + 1 → F = F := fun _ => rfl
                  have HN2 := Lib.hid (And.intro hn hiM2)
                  have hl3 : (framesL ls).length ≤ 30000 := by rw [← HFS.out, ← HFL.out]; omega
                  have h2f : F ≤ (framesL ls).length := by rw [← HFS.out, ← HFL.out]; exact h2
                  have HRA : Hid (Reads wr br 1 (some ⟨g, 0, none⟩) F (bcells (framesL ls))) := by rw [← HFS.out]; exact (HBR.out ▸ Reads.of_own HO3.out).below HI1.out.below
                  refine (feed_step HLS.out hl3 h1 h2f HC.out HI1.out _ _ _ HN2.out.1 ((read_piece HRA.out h1 h2 _ _ HN2.out.1 (.inr ⟨g, rfl, rfl⟩)).more (Nat.le_of_succ_le HI1.out.size))).mono ?_
                  rintro e w5 ⟨Al, cl, ms, left2, tk2, mid, Av2, cv2, rfl, hmid, hcut2⟩
                  have HMD := Lib.hid hmid
                  have HC2 := Lib.hid hcut2
                  have hlen2 := hcut2.len h2f
                  rw [List.length_append, ← HG.out] at hlen2
                  obtain ⟨L, hL⟩ : ∃ L, L = left2.length := ⟨_, rfl⟩
                  obtain ⟨m, hm⟩ : ∃ m, m = ms.length := ⟨_, rfl⟩
                  rw [← hL, ← hm] at hlen2
                  rw [← hm]
                  obtain ⟨hlt2, hgm2⟩ := hlen2
                  have hrd : Rdr w5 br (.slice Av2 L cv2) tk2 0 := by rw [hL]; exact hmid.i.r
                  have HRD := Lib.hid hrd
                  have HL := Lib.hid (And.intro hL hm)
                  have hltz : (L : Int) + (tk2 : Int) = (F : Int) := by omega
                  clear hmid hcut2 hL hm hrd hlt2 hn hiM2
                  go_wp2_with fail
                  refine (left_any br Av2 L cv2 tk2 0 _ HRD.out).mono ?_
                  rintro e w5b ⟨rfl, h5b⟩
                  rw [h5b]
                  clear h5b w5b
                  go_wp2_with fail
                  refine (taken_any br _ tk2 0 _ HRD.out).mono ?_
                  rintro e w5b ⟨rfl, h5b⟩
                  rw [h5b]
                  clear h5b w5b
                  have hmid2 := HMD.out
                  obtain ⟨w6, rfl⟩ : ∃ w6, w6 = w5 := ⟨_, rfl⟩
                  obtain ⟨us, us2, ha1, ha2, ha3, ha4⟩ := hmid2.app
                  rw [← HG.out] at ha1 ha4
                  rw [← HL.out.2] at ha2 ha4
                  have HA := Lib.hid (And.intro ha1 (And.intro ha2 (And.intro ha3 (And.intro ha4 hmid2.i.size))))
                  clear HMD HRD hmid2 ha1 ha2 ha3 ha4
                  obtain ⟨_, hi', hy0, hy1, hy2⟩ := HI.out
                  go_wp2_with (at_builtin; refine wpList_append_any _ rfl (.tmp 133) (.tmp 134) 35 rfl (br + 1) 22 i1 (.slice none 0 0) 1 24 Try.underlying35 hi' hy0 hy1 hy2 rfl (by decide) (.slice Ag G cg) G us rfl HA.out.1 w6.heap.size Al m cl us2 rfl HA.out.2.1 HA.out.2.2.1 (by unfold maxLen; omega) (by omega) HA.out.2.2.2.2 ?_; intro v7 w7 ho7 hg7 hat7; obtain ⟨A7, c7, rfl, _⟩ := own_form ho7; have HI7 := Lib.hid (HA.out.2.2.2.1 A7 c7 w7 ho7 hg7); clear ho7 hg7 hat7)
                  have HRA7 : Hid (Reads w7 br 1 (some ⟨g, 0, none⟩) F (bcells (framesL ls))) := by rw [← HFS.out]; exact (HBR.out ▸ Reads.of_own HO3.out).below HI7.out.below
                  refine (split_step HLS.out hl3 h2f HC2.out _ _ _ rfl (by omega) ((read_to HRA7.out h2).more (Nat.le_of_succ_le HI7.out.size))).mono ?_
                  rintro e w8 ⟨Ak, ck, er, rfl, her, hb8⟩
                  have HI8 := Lib.hid (HI7.out.chg (Chg.of_below hb8))
                  have HEL := Lib.hid (show (gs ++ ms).length = G + m by rw [List.length_append, HG.out, HL.out.2])
                  rw [HEL.out]
                  have hrd8 : Rdr w8 br (.slice Av2 L cv2) tk2 0 := by have h := HI8.out.r; rw [← HL.out.1] at h; exact h
                  have HRD8 := Lib.hid hrd8
                  rw [← HL.out.1] at her
                  clear hb8 hrd8 HI7 HRA7 HA HRA
                  rcases her with ⟨rfl, h0⟩ | ⟨rfl, h0⟩
                  · go_wp2_with fail
                    refine (left_any br Av2 L cv2 tk2 0 _ HRD8.out).mono ?_
                    rintro e w8b ⟨rfl, h8b⟩
                    rw [h8b]
                    clear h8b w8b
                    go_wp2_with fail
                    refine (taken_any br _ tk2 0 _ HRD8.out).mono ?_
                    rintro e w8b ⟨rfl, h8b⟩
                    rw [h8b]
                    clear h8b w8b
                    go_wp2_with fail
                    go_roundw
                    case rel => exact ⟨i + 1, F, tk2, mid, left2, gs ++ ms, Av2, cv2, A7, c7, by rw [HEL.out], rfl, by go_num, by omega, h2, fun _ => rfl, HC2.out, HI8.out⟩
                    case measure => first | (simp [intOf]; done) | (simp [intOf]; omega)
                  · go_wp2_with fail
                    refine (left_any br Av2 L cv2 tk2 0 _ HRD8.out).mono ?_
                    rintro e w8b ⟨rfl, h8b⟩
                    rw [h8b]
                    clear h8b w8b
                    go_wp2_with fail
                    refine (taken_any br _ tk2 0 _ HRD8.out).mono ?_
                    rintro e w8b ⟨rfl, h8b⟩
                    rw [h8b]
                    clear h8b w8b
                    go_wp2_with fail
                    go_roundw
                    case rel => exact ⟨i + 1, F, tk2, mid, left2, gs ++ ms, Av2, cv2, A7, c7, by rw [HEL.out], rfl, by go_num, by omega, h2, fun _ => rfl, HC2.out, HI8.out⟩
                    case measure => first | (simp [intOf]; done) | (simp [intOf]; omega)
            · have hqF2 : q = F := hiq (by omega)
              have e : (framesL ls).length = q := by rw [← HFS.out, ← HFL.out, hqF2]
              obtain ⟨hl0, hgl⟩ := CutAt.done HLS.out (left := left) (tk := tk) (gs := gs) (by rw [e]; exact HC.out)
              have hrd : Rdr wr br (.slice Av 0 cv) tk 0 := by
                have := HI1.out.r
                rw [hl0] at this
                exact this
              have hGN : G = N := by rw [HG.out, hgl, ← HN.out]
              have hbw : Below w.heap.size w wr := HB3.out.trans (HI1.out.below.mono hwbr)
              have hrl : RL wr wr.heap.size Ag ls := by
                have := HI1.out.got.rl
                rw [hgl] at this
                exact this
              have hsm := same_any Ag A cg c ls ls wr wr.heap.size hrl ((HR.out.below hbw).more hbw.size) (by rw [← HN.out]; omega)
              rw [decide_eq_true rfl, ← HN.out] at hsm
              have HS := Lib.hid (And.intro hsm (And.intro hbw hrd))
              rw [hGN]
              clear hsm hbw hrl hrd hGN hgl hl0 e hqF2
              go_wp2_with fail
              refine HS.out.1.mono ?_
              rintro e wz ⟨rfl, nz, rfl⟩
              go_wp2_with fail
              refine (left_any br Av 0 cv tk 0 _ (HS.out.2.2.chg ((Chg.refl (fun _ => False) wr).drewN nz) (fun e => e))).mono ?_
              rintro e wy ⟨rfl, hy⟩
              rw [hy]
              clear hy wy
              go_wp2_with fail
              go_ret
              exact ⟨rfl, drewN_below HS.out.2.1 nz⟩
end Go.Proofs.Ytmoplkmfpobhaaa
