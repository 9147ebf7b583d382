/- The walk of prompterlaw19.StickyLast: it returns true. -/
import Derived.StillTailTactics
import Derived.Outline
import Derived.Test.YtnipmhidiiondaaLpl
namespace Go.Proofs.Ytnipmhidiiondaa
open Go.RowKit Go.Maps

theorem bytes_ne' {a b : ByteArray} (h : a ≠ b) : (a.toList == b.toList) = false := by
  cases e : (a.toList == b.toList)
  · rfl
  · exact absurd (bytes_eq e) h
theorem nodup_ne {l : List ByteArray} (h : l.Nodup) {i j : Nat} {x y : ByteArray} (hx : l[i]? = some x) (hy : l[j]? = some y) (hij : i ≠ j) : x ≠ y := by
  rintro rfl
  obtain ⟨h1, e1⟩ := List.getElem?_eq_some_iff.1 hx
  obtain ⟨h2, e2⟩ := List.getElem?_eq_some_iff.1 hy
  rcases Nat.lt_or_gt_of_ne hij with hlt | hlt
  · exact List.pairwise_iff_getElem.1 h i j h1 h2 hlt (e1.trans e2.symm)
  · exact List.pairwise_iff_getElem.1 h j i h2 h1 hlt (e2.trans e1.symm)
set_option maxRecDepth 100000 in
set_option maxHeartbeats 1000000 in
theorem stickyLast_walk (R : Int) (A : Option Addr) (N : List ByteArray) (c : Nat) (w : World) (hR : -9223372036854775808 ≤ R ∧ R ≤ 9223372036854775807) (hl : RdB w A N) (hlen : N.length ≤ c ∧ c ≤ 9223372036854775807) (hnm : ∀ s ∈ N, s.size ≤ maxLen) :
    Calls Try.prog 4 #[.int .i64 R, .slice A N.length c] w fun e w' => e = .returned (.bool true) ∧ Below w.heap.size w w' := by
  obtain ⟨n, hn⟩ : ∃ n, n = N.length := ⟨_, rfl⟩
  rw [← hn] at hlen ⊢
  have HN := Lib.hid hn
  have HL := Lib.hid hl
  have HNM := Lib.hid hnm
  clear hn hl hnm
  obtain ⟨hR1, hR2⟩ := hR
  obtain ⟨hc1, hc2⟩ := hlen
  go_enter Try.func4, Try.ntmps4
  go_wp2_with fail
  refine (awake_any w).mono ?_
  rintro e w1 ⟨rfl, hb1⟩
  have HB1 := Lib.hid hb1
  clear hb1
  by_cases hlong : 100 < n
  · have hd : decide ((100 : Int) < (n : Int)) = true := decide_eq_true (by omega)
    go_wp2_with fail
    go_ret
    exact ⟨rfl, HB1.out⟩
  · have hd : decide ((100 : Int) < (n : Int)) = false := decide_eq_false (by omega)
    cases hmR : mayB R
    · have HMR := Lib.hid (new_bad R w1 hmR)
      have hmR' : R < 1 ∨ 4096 < R := by unfold mayB at hmR; simp at hmR; omega
      clear hmR
      by_cases h1 : R < 1
      · have hd3 : decide (R < 1) = true := decide_eq_true h1
        clear hmR'
        go_wp2_with fail
        refine HMR.out.mono ?_
        rintro e w2 ⟨rfl, hw2⟩
        rw [hw2]
        clear hw2 w2
        go_wp2_with fail
        go_ret
        exact ⟨rfl, HB1.out⟩
      · have hd3 : decide (R < 1) = false := decide_eq_false h1
        have hd4 : decide (4096 < R) = true := decide_eq_true (by omega)
        clear hmR'
        go_wp2_with fail
        refine HMR.out.mono ?_
        rintro e w2 ⟨rfl, hw2⟩
        rw [hw2]
        clear hw2 w2
        go_wp2_with fail
        go_ret
        exact ⟨rfl, HB1.out⟩
    · have hR3 : 1 ≤ R ∧ R ≤ 4096 := by unfold mayB at hmR; simpa using hmR
      obtain ⟨r, rfl⟩ : ∃ r : Nat, R = (r : Int) := ⟨R.toNat, by omega⟩
      have HMR := Lib.hid (new_any r w1 (by omega) (by omega))
      clear hmR
      go_wp2_with fail
      refine HMR.out.mono ?_
      rintro e w2 ⟨g, p0, rfl, hcc, hbc, hoc⟩
      have HO : Hid (One w w.heap.size g ⟨r, [], 0, 0⟩ p0 w2) := ⟨hcc, fun b hb => Nat.le_trans HB1.out.size (hoc b hb), HB1.out.trans (hbc.mono HB1.out.size), Nat.le_trans HB1.out.size hbc.size⟩
      clear hcc hbc hoc
      go_wp2_with fail
      go_loopw [7] (fun s7 wr => ∃ (i : Nat) (Ac : Abs) (p : Pls), s7 = .int .i64 i ∧ i ≤ n ∧ One w w.heap.size g Ac p wr ∧ Pu N r i Ac) (fun s7 _ => n - (intOf s7).toNat)
      case atStart => exact ⟨0, _, p0, rfl, by omega, HO.out, ⟨by omega, rfl, by simp [rc], by simp, Nat.le_refl _, Nat.le_refl _⟩⟩
      case round =>
        clear HO
        obtain ⟨i, Ac, p, rfl, hi, hone, hpu⟩ := hrel
        have HO := Lib.hid hone
        have HP := Lib.hid hpu
        clear hone hpu
        by_cases hin : i < n
        · obtain ⟨s, hs⟩ : ∃ s, N[i]? = some s := ⟨_, List.getElem?_eq_getElem (by rw [← HN.out]; exact hin)⟩
          have HSM : Hid (s.size ≤ maxLen) := HNM.out s (List.mem_of_getElem? hs)
          obtain ⟨b, o, rfl, hblt, hat⟩ : ∃ b off, A = some ⟨b, off, none⟩ ∧ b < w.heap.size ∧ ∀ k s, N[k]? = some s → w.cell? ⟨b, off + k, none⟩ = some (.string s) := HL.out.resolve_left (fun h => by rw [h] at hs; cases hs)
          have HAT : Hid (∀ W, Below w.heap.size w W → ∀ k s, N[k]? = some s → W.cell? ⟨b, o + k, none⟩ = some (.string s)) := fun W hW k s hk => (hW.cell (p := ⟨b, _, none⟩) hblt).trans (hat k s hk)
          have c1 : wr.cell? ⟨b, o + i, none⟩ = some (.string s) := HAT.out wr HO.out.bel i s hs
          have HS := Lib.hid hs
          have hi0 : (0 : Int) ≤ (i : Int) := by omega
          have hin2 : (i : Int) < (n : Int) := by omega
          have hdi : decide ((i : Int) < (n : Int)) = true := decide_eq_true hin2
          clear hs hat hblt
          go_wp2_with fail
          refine (get_any g Ac p s wr HO.out.c HSM.out (by have := HP.out.hits; omega) (by have := HP.out.misses; omega)).mono ?_
          rintro e w5 ⟨rfl, hk5⟩
          obtain ⟨p5, ho5⟩ := HO.out.keep hk5
          have HO5 := Lib.hid ho5
          clear hk5 ho5 HO c1
          obtain ⟨vv, hvv⟩ : ∃ vv, vv = (lk Ac.L s).getD 0 := ⟨_, rfl⟩
          obtain ⟨iz, hiz⟩ : ∃ iz, iz = (lk Ac.L s).isSome := ⟨_, rfl⟩
          rw [← hvv, ← hiz]
          have HVZ := Lib.hid (And.intro hvv hiz)
          clear hvv hiz
          go_wp2_with fail
          obtain ⟨wo, rfl⟩ : ∃ wo : World, wo = wr := ⟨_, rfl⟩
          go_loopw [10, 11] (fun s10 s11 wi => ∃ (k : Nat) (z : Int), s11 = .int .i64 k ∧ k ≤ i ∧ s10 = .int .i64 z ∧ LI N s k z ∧ ∃ q, wi = w5.drewN q) (fun _ s11 _ => i - (intOf s11).toNat)
          case atStart => exact ⟨0, -1, by go_num, by omega, by go_num, .start, 0, rfl⟩
          case round =>
            obtain ⟨k, z, rfl, hk, rfl, hli, q, hwq⟩ := hrel
            have HLI := Lib.hid (And.intro hli hwq)
            clear hli hwq
            have HO6 : Hid (One w w.heap.size g (getA Ac s) p5 wr) := by rw [HLI.out.2]; exact HO5.out.below (below_drewN (Below.refl _ _) q)
            by_cases hki : k < i
            · have hdk : decide ((k : Int) < (i : Int)) = true := decide_eq_true (by omega)
              have hk0 : (0 : Int) ≤ (k : Int) := by omega
              have hkn : (k : Int) < (n : Int) := by omega
              obtain ⟨y, hy⟩ : ∃ y, N[k]? = some y := ⟨_, List.getElem?_eq_getElem (by rw [← HN.out]; omega)⟩
              have c3 : wr.cell? ⟨b, o + k, none⟩ = some (.string y) := HAT.out wr HO6.out.bel k y hy
              have c4 : wr.cell? ⟨b, o + i, none⟩ = some (.string s) := HAT.out wr HO6.out.bel i s HS.out
              have HY := Lib.hid hy
              clear hy
              cases hf0 : (y.toList == s.toList)
              · have HLN := Lib.hid (HLI.out.1.no HY.out (bytes_ne hf0))
                go_wp2_with fail
                go_quiet (fail)
                go_wp2_with fail
                go_roundw
                case rel => exact ⟨k + 1, z, by go_num, by omega, rfl, HLN.out, q + nq, by rw [HLI.out.2]; exact drewN_twice w5 q nq⟩
                case measure => simp [intOf]; omega
              · have HLN : Hid (LI N s (k + 1) k) := .yes (by rw [← bytes_eq hf0]; exact HY.out)
                go_wp2_with fail
                go_quiet (fail)
                go_wp2_with fail
                go_roundw
                case rel => exact ⟨k + 1, k, by go_num, by omega, rfl, HLN.out, q + nq, by rw [HLI.out.2]; exact drewN_twice w5 q nq⟩
                case measure => simp [intOf]; omega
            · have hdk : decide ((k : Int) < (i : Int)) = false := decide_eq_false (by omega)
              have hke : k = i := by omega
              subst hke
              have c4 : wr.cell? ⟨b, o + k, none⟩ = some (.string s) := HAT.out wr HO6.out.bel k s HS.out
              rcases HLI.out.1 with ⟨rfl, hno⟩ | ⟨j, rfl, hj, hjs, hjn⟩
              · have hz : iz = false := by rw [HVZ.out.2]; exact want_no HP.out.names hno
                rw [hz] at HVZ ⊢
                clear hno hz
                go_wp2_with fail
                refine (put_any g (getA Ac s) p5 s k wr HO6.out.c HSM.out).mono ?_
                rintro e w7 ⟨rfl, hk7⟩
                obtain ⟨p7, ho7⟩ := HO6.out.keep hk7
                have HO7 := Lib.hid ho7
                clear hk7 ho7
                go_wp2_with fail
                go_roundw
                case rel => exact ⟨k + 1, _, p7, by go_num, by omega, HO7.out, HP.out.miss HS.out HVZ.out.2.symm⟩
                case measure => simp [intOf]; omega
              · have hz : iz = decide (dcnt s ((N.take k).drop (j + 1)) < r) := by rw [HVZ.out.2]; exact want_yes HP.out.names hjs hj hjn
                have HJ := Lib.hid hjs
                clear hjs hjn
                have hkc : (k : Int) ≤ (c : Int) := by omega
                have hd0 : decide ((0 : Int) ≤ (j : Int)) = true := decide_eq_true (by omega)
                have HFR : Hid (∀ W, One w w.heap.size g (getA Ac s) p5 W → Calls Try.prog 13 #[.slice (some ⟨b, o, none⟩) k c, .int .i64 (j : Nat)] W fun e w' => e = .returned (.int .i64 (dcnt s ((N.take k).drop (j + 1)) : Nat)) ∧ ∃ q, w' = W.drewN q) := fun W hW => fresh_any _ c k j (N.take k) s W ((HL.out.keep hW.bel).take k) (by rw [List.length_take, ← HN.out]; omega) (by omega) (by rw [List.getElem?_take_of_lt hj]; exact HJ.out)
                obtain ⟨d, hdd⟩ : ∃ d, d = dcnt s ((N.take k).drop (j + 1)) := ⟨_, rfl⟩
                rw [← hdd] at hz HFR
                clear hdd
                have HZ := Lib.hid hz
                clear hz
                go_wp2_with fail
                refine (HFR.out wr HO6.out).mono ?_
                rintro e w6 ⟨rfl, q6, hw6⟩
                have HO7 : Hid (One w w.heap.size g (getA Ac s) p5 w6) := by rw [hw6]; exact HO6.out.below (below_drewN (Below.refl _ _) q6)
                clear hw6
                have c5 : w6.cell? ⟨b, o + k, none⟩ = some (.string s) := HAT.out w6 HO7.out.bel k s HS.out
                clear c4
                by_cases hdr : d < r
                · have hdr2 : decide ((d : Int) < (r : Int)) = true := decide_eq_true (by omega)
                  have hz : iz = true := by rw [HZ.out]; exact decide_eq_true hdr
                  rw [hz] at HVZ ⊢
                  have HIS := Lib.hid HVZ.out.2.symm
                  have hv : vv < (k : Int) := by
                    obtain ⟨u, hu⟩ := Option.isSome_iff_exists.1 HIS.out
                    have := HP.out.val hu
                    have e : vv = u := by rw [HVZ.out.1, hu]; rfl
                    rw [e]; exact this
                  have hdv : decide ((k : Int) ≤ vv) = false := decide_eq_false (by omega)
                  clear hz
                  go_wp2_with fail
                  go_roundw
                  case rel => exact ⟨k + 1, _, p5, by go_num, by omega, HO7.out, HP.out.hit HS.out HIS.out⟩
                  case measure => simp [intOf]; omega
                · have hdr2 : decide ((d : Int) < (r : Int)) = false := decide_eq_false (by omega)
                  have hz : iz = false := by rw [HZ.out]; exact decide_eq_false hdr
                  rw [hz] at HVZ ⊢
                  have HIS := Lib.hid HVZ.out.2.symm
                  clear hz
                  go_wp2_with fail
                  refine (put_any g (getA Ac s) p5 s k w6 HO7.out.c HSM.out).mono ?_
                  rintro e w7 ⟨rfl, hk7⟩
                  obtain ⟨p7, ho7⟩ := HO7.out.keep hk7
                  have HO8 := Lib.hid ho7
                  clear hk7 ho7
                  go_wp2_with fail
                  go_roundw
                  case rel => exact ⟨k + 1, _, p7, by go_num, by omega, HO8.out, HP.out.miss HS.out HIS.out⟩
                  case measure => simp [intOf]; omega
        · have hdi : decide ((i : Int) < (n : Int)) = false := decide_eq_false (by omega)
          have hie : i = N.length := by rw [← HN.out]; omega
          have HPN : Hid (Pu N r N.length Ac) := by rw [← hie]; exact HP.out
          clear hie
          go_wp2_with fail
          refine (names_any g Ac p wr HO.out.c).mono ?_
          rintro e wn ⟨An, cn, rfl, hno, hnb⟩
          obtain ⟨NL, hNL⟩ : ∃ NL, NL = List.map (fun x : Ent => x.1) Ac.L := ⟨_, rfl⟩
          have HLC : Hid (Calls Try.prog 14 #[.pointer (some ⟨g, 0, none⟩)] wn fun e w' => e = .returned (.int .i64 (NL.length : Nat)) ∧ w' = wn) := by
            have := len_c g Ac p wn (HO.out.c.below hnb)
            rw [hNL, List.length_map]; exact this
          have HFC : Hid (NL.Nodup ∧ NL.length ≤ r) := by
            have h := HO.out.c.facts
            rw [← HP.out.room]
            exact ⟨by rw [hNL]; exact h.1, by rw [hNL, List.length_map]; exact h.2.1⟩
          have HFI : Hid (∀ z, N[N.length - 1]? = some z → NL[0]? = some z ∧ 0 < NL.length) := fun z hz => by rw [hNL]; exact HPN.out.first hz
          have HB : Hid (Below w.heap.size w wn) := (HO.out.below hnb).bel
          have hrd : RdT wn An NL := own_rdT (by rw [hNL]; exact hno) rfl
          rw [← hNL]
          obtain ⟨nl, hnl⟩ : ∃ nl, nl = NL.length := ⟨_, rfl⟩
          rw [← hnl] at HLC HFC HFI ⊢
          have hlr : decide ((r : Int) < (nl : Int)) = false := decide_eq_false (by have := HFC.out.2; omega)
          have hlr2 : nl ≤ 4096 := by have := HFC.out.2; omega
          have HNL := Lib.hid hnl
          have HRD := Lib.hid hrd
          clear hNL hnl hrd hno hnb
          go_wp2_with fail
          refine HLC.out.mono ?_
          rintro e wq ⟨rfl, hwq⟩
          rw [hwq]
          clear hwq wq
          have hlr3 : ¬ r < nl := by have := HFC.out.2; omega
          go_wp2_with fail
          obtain ⟨wo, rfl⟩ : ∃ wo : World, wo = wr := ⟨_, rfl⟩
          go_loopw [14] (fun s14 wa => ∃ a : Nat, s14 = .int .i64 a ∧ a ≤ nl ∧ ∃ q, wa = wn.drewN q) (fun s14 _ => nl - (intOf s14).toNat)
          case atStart => exact ⟨0, rfl, by omega, 0, rfl⟩
          case round =>
            obtain ⟨a, rfl, ha, q, hwq⟩ := hrel
            have HWQ := Lib.hid hwq
            clear hwq
            by_cases hal : a < nl
            · have hda : decide ((a : Int) < (nl : Int)) = true := decide_eq_true (by omega)
              go_wp2_with fail
              obtain ⟨wo2, rfl⟩ : ∃ wo : World, wo = wr := ⟨_, rfl⟩
              go_loopw [15] (fun s15 wa => ∃ b : Nat, s15 = .int .i64 b ∧ b ≤ a ∧ ∃ q, wa = wn.drewN q) (fun s15 _ => a - (intOf s15).toNat)
              case atStart => exact ⟨0, rfl, by omega, q, HWQ.out⟩
              case round =>
                obtain ⟨b, rfl, hb, q2, hwq2⟩ := hrel
                have HWQ2 := Lib.hid hwq2
                clear hwq2
                by_cases hba : b < a
                · have hdb : decide ((b : Int) < (a : Int)) = true := decide_eq_true (by omega)
                  obtain ⟨x, hx⟩ : ∃ x, NL[a]? = some x := ⟨_, List.getElem?_eq_getElem (by rw [← HNL.out]; exact hal)⟩
                  obtain ⟨y, hy⟩ : ∃ y, NL[b]? = some y := ⟨_, List.getElem?_eq_getElem (by rw [← HNL.out]; omega)⟩
                  obtain ⟨ab, ao, rfl, hcs⟩ : ∃ b off, An = some ⟨b, off, none⟩ ∧ ∀ k s, NL[k]? = some s → wn.cell? ⟨b, off + k, none⟩ = some (.string s) := HRD.out.resolve_left (fun h => by rw [h] at hx; cases hx)
                  have c1 : wr.cell? ⟨ab, ao + a, none⟩ = some (.string x) := by rw [HWQ2.out]; exact hcs a x hx
                  have c2 : wr.cell? ⟨ab, ao + b, none⟩ = some (.string y) := by rw [HWQ2.out]; exact hcs b y hy
                  have hne : (x.toList == y.toList) = false := bytes_ne' (nodup_ne HFC.out.1 hx hy (by omega))
                  have ha0 : (0 : Int) ≤ (a : Int) := by omega
                  have ha1 : (a : Int) < (nl : Int) := by omega
                  have hb0 : (0 : Int) ≤ (b : Int) := by omega
                  have hb1 : (b : Int) < (nl : Int) := by omega
                  clear hx hy hcs
                  go_wp2_with fail
                  go_quiet (fail)
                  go_wp2_with fail
                  go_roundw
                  case rel => exact ⟨b + 1, by go_num, by omega, q2 + nq, by rw [HWQ2.out]; exact drewN_twice wn q2 nq⟩
                  case measure => simp [intOf]; omega
                · have hdb : decide ((b : Int) < (a : Int)) = false := decide_eq_false (by omega)
                  go_wp2_with fail
                  go_roundw
                  case rel => exact ⟨a + 1, by go_num, by omega, q2, HWQ2.out⟩
                  case measure => simp [intOf]; omega
            · have hda : decide ((a : Int) < (nl : Int)) = false := decide_eq_false (by omega)
              have HBW : Hid (Below w.heap.size w wr) := by rw [HWQ.out]; exact below_drewN HB.out q
              by_cases hn0 : n = 0
              · have hn1 : ((n : Int) == 0) = true := by rw [hn0]; rfl
                clear hn0
                go_wp2_with fail
                go_quiet (fail)
                go_wp2_with fail
                go_ret
                exact ⟨rfl, below_drewN HBW.out nq⟩
              · have hn1 : ((n : Int) == 0) = false := by rw [beq_eq_false_iff_ne]; omega
                obtain ⟨m, hm⟩ : ∃ m, n = m + 1 := ⟨n - 1, by omega⟩
                obtain ⟨z, hz⟩ : ∃ z, N[N.length - 1]? = some z := ⟨_, List.getElem?_eq_getElem (by rw [← HN.out]; omega)⟩
                obtain ⟨hz0, hnl0⟩ := HFI.out z hz
                have hz' : N[m]? = some z := by rw [← hz]; congr 1; have := HN.out; omega
                obtain ⟨b, o, rfl, hblt, hat⟩ : ∃ b off, A = some ⟨b, off, none⟩ ∧ b < w.heap.size ∧ ∀ k s, N[k]? = some s → w.cell? ⟨b, off + k, none⟩ = some (.string s) := HL.out.resolve_left (fun h => by rw [h] at hz'; cases hz')
                obtain ⟨ab, ao, rfl, hcs⟩ : ∃ b off, An = some ⟨b, off, none⟩ ∧ ∀ k s, NL[k]? = some s → wn.cell? ⟨b, off + k, none⟩ = some (.string s) := HRD.out.resolve_left (fun h => by rw [h] at hz0; cases hz0)
                have c1 : wr.cell? ⟨ab, ao, none⟩ = some (.string z) := by rw [HWQ.out]; exact hcs 0 z hz0
                have c2 : wr.cell? ⟨b, o + m, none⟩ = some (.string z) := (HBW.out.cell (p := ⟨b, _, none⟩) hblt).trans (hat m z hz')
                have hd0 : decide ((0 : Int) < (nl : Int)) = true := decide_eq_true (by omega)
                have hzz : (z.toList == z.toList) = true := beq_self_eq_true _
                have hnl1 : (0 : Int) < (nl : Int) := by omega
                clear hz hz0 hz' hn0 hat hcs
                have hm0 : (0 : Int) ≤ (m : Int) := by omega
                have hm1 : (m : Int) < (n : Int) := by omega
                have hnm1 : (n : Int) - 1 = (m : Int) := by omega
                clear hm
                go_wp2_with fail
                go_quiet (fail)
                go_wp2_with fail
                go_ret
                exact ⟨rfl, below_drewN HBW.out nq⟩
end Go.Proofs.Ytnipmhidiiondaa
