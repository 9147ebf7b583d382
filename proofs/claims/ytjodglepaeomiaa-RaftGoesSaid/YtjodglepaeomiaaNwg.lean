/- RaftGoes's walk: for every input the law returns true, and what came in stands as before. -/
import Derived.Test.YtjodglepaeomiaaNrx
import Derived.Test.YtjodglepaeomiaaAwk
namespace Go.Proofs.Ytjodglepaeomiaa
open Go.RowKit

theorem outs_fine7 {S : Sv} (h : S.Good) : Fine S.tick.2 := tick_fine h
set_option maxRecDepth 100000 in
set_option maxHeartbeats 32000000 in
theorem goes_walk (n0 : Int) (A : Option Addr) (c : Nat) (l : List Dd) (who : Int) (data : ByteArray) (w : World) (hrd : RdD w A l) (hlen : l.length ≤ 9223372036854775807) (hok : ∀ x ∈ l, DdOk x) (hds : data.size ≤ 9223372036854775807) :
    Calls Try.prog 5 #[.int .i64 n0, .slice A l.length c, .int .i64 who, .string data] w fun e w' => e = .returned (.bool true) ∧ Below w.heap.size w w' := by
  have HH := Lib.hid (And.intro hrd (And.intro hlen hok))
  clear hrd hlen hok
  have HAW := Lib.hid (awake_any w)
  go_enter Try.func5, Try.ntmps5
  go_wp2_with fail
  refine HAW.out.mono ?_
  rintro e w1 ⟨rfl, hb1⟩
  have HB1 := Lib.hid hb1
  clear hb1 HAW
  have HLO := Lib.hid (long_any A c l w1 (HH.out.1.below HB1.out) HH.out.2.1 HH.out.2.2)
  obtain ⟨q, hq⟩ : ∃ q, q = l.length := ⟨_, rfl⟩
  have HQ := Lib.hid hq
  rw [← hq] at HLO ⊢
  clear hq
  by_cases h1 : n0 < 1
  · have d1 : decide (n0 < (1 : Int)) = true := decide_eq_true h1
    go_wp2_with fail
    go_ret
    exact ⟨rfl, HB1.out⟩
  have d1 : decide (n0 < (1 : Int)) = false := decide_eq_false h1
  by_cases h7 : n0 > 7
  · have d7 : decide (n0 > (7 : Int)) = true := decide_eq_true h7
    go_wp2_with fail
    go_ret
    exact ⟨rfl, HB1.out⟩
  have d7 : decide (n0 > (7 : Int)) = false := decide_eq_false h7
  obtain ⟨R, hR⟩ : ∃ R, R = longB l := ⟨_, rfl⟩
  have HR := Lib.hid hR
  rw [← hR] at HLO
  clear hR
  go_wp2_with fail
  refine HLO.out.mono ?_
  rintro e w2' ⟨rfl, rfl⟩
  cases R
  case true =>
    go_wp2_with fail
    go_ret
    exact ⟨rfl, HB1.out⟩
  by_cases h50 : 50 < data.size
  · have d50 : decide ((data.size : Int) > 50) = true := decide_eq_true (by omega)
    have d50' : decide (50 < data.size) = true := decide_eq_true h50
    go_wp2_with fail
    go_ret
    exact ⟨rfl, HB1.out⟩
  have d50 : decide ((data.size : Int) > 50) = false := decide_eq_false (by omega)
  have d50' : decide (50 < data.size) = false := decide_eq_false h50
  obtain ⟨n, rfl⟩ : ∃ k : Nat, n0 = (k : Int) := ⟨n0.toNat, by omega⟩
  have hn1 : 1 ≤ n := by omega
  have hn7 : n ≤ 7 := by omega
  have HPL := Lib.hid (played_any (w := w2') (n := n) hn1 hn7 A c l (HH.out.1.below HB1.out) HH.out.2.2 HR.out.symm)
  have hq150 : q ≤ 150 := by have := (longB_not HR.out.symm).1; have := HQ.out; omega
  rw [← HQ.out] at HPL
  obtain ⟨gN, hgN⟩ : ∃ z, z = w2'.heap.size := ⟨_, rfl⟩
  have HG := Lib.hid hgN
  rw [← hgN] at HPL
  have HDS : Hid (data.size ≤ 65536) := Lib.hid (by omega)
  clear hgN h1 h7 d1 d7 HR HLO
  go_wp2_with fail
  refine HPL.out.mono ?_
  rintro e w3 ⟨rfl, X, ps, way, Z, v, hU, hlen, hsu, hle, hbu, hch⟩
  have f1 : w3.frozen? ⟨gN, 1, none⟩ = false := hU.m.top.frozen 1
  have c1 := hU.m.c1
  have hnw := hU.m.newWay (way' := []) (A' := none) (c' := 0) (Chg.refl _ _) (fun b hb => hb) (fun b hb => .inl hb) (.nil _ _ _ _) (fun x hx => by cases hx)
  have H4 : Hid (Up (w3.setCell ⟨gN, 1, none⟩ (.slice none 0 0)) gN gN n q X ps [] Z { v with Aw := none, cw := 0 } ∧ Z.sure.length ≤ q ∧ Z.leads.length ≤ 7 * q ∧ Z.bud = 5000 ∧ Chg (fun b => gN ≤ b) w2' (w3.setCell ⟨gN, 1, none⟩ (.slice none 0 0))) := Lib.hid ⟨⟨hnw.1, hU.s.less (fun m hm => by cases hm), fun x hx => by cases hx⟩, hsu, hle, hbu, hch.trans (hnw.2.mono (fun b hb => (hU.m.Xw b hb).1))⟩
  clear hU hlen hsu hle hbu hch hnw HPL
  go_upto_region 9 with fail
  generalize w3.setCell ⟨gN, 1, none⟩ (.slice none 0 0) = w4 at *
  clear f1 c1
  have HBE := Lib.hid (best_any H4.out.1 hn1 who)
  go_wp2_with fail
  refine HBE.out.mono ?_
  rintro e w5 ⟨⟨a, rfl, hN⟩, hb5⟩
  have han := hN.1
  have H5 : Hid (Turned w2' gN n a q 0 w5) := Lib.hid ⟨X, ps, Z, _, H4.out.1.below hb5, hN, fun h => absurd h (by decide), fun h => absurd h (by decide), H4.out.2.1, H4.out.2.2.1, by have := H4.out.2.2.2.1; omega, by have := H4.out.2.2.2.1; omega, H4.out.2.2.2.2.trans (.of_below hb5)⟩
  clear hN hb5 HBE H4
  go_wp2_with fail
  go_loopw [12, 13] (fun s12 _ wr => ∃ i : Nat, s12 = .int .i64 (i : Nat) ∧ i ≤ 2 ∧ Turned w2' gN n a q i wr) (fun s12 _ _ => 2 - (intOf s12).toNat)
  case atStart => exact ⟨0, rfl, by omega, H5.out⟩
  case round =>
    clear H5
    obtain ⟨i, rfl, hi, X, ps, Z, v, hU, hN, hT, hL, h1, h2, h3, h4, hch⟩ := hrel
    obtain ⟨p, hp⟩ : ∃ p, ps[a]? = some p := ⟨_, List.getElem?_eq_getElem (by rw [hU.n]; exact han)⟩
    obtain ⟨g, S⟩ := p
    obtain ⟨gl, hAl, cg⟩ := hU.m.srvAt hp
    have c0 := hU.m.c0
    rw [hU.n, hAl] at c0
    have a0 : (0 : Int) ≤ (a : Int) := by omega
    have a1 : (a : Int) < (n : Int) := by omega
    have HST := Lib.hid (And.intro hU (And.intro hN (And.intro hT (And.intro hL (And.intro h1 (And.intro h2 (And.intro h3 (And.intro h4 (And.intro hch hp)))))))))
    have HG1 := Lib.hid (hU.s.good (sv_at hp)).1
    by_cases hlt : i < 2
    · have di : decide ((i : Int) < 2) = true := decide_eq_true (by omega)
      have HTK := Lib.hid (ticked hU hp)
      have HFI := Lib.hid (tick_fine HG1.out)
      obtain ⟨ms, hms⟩ : ∃ z, z = S.tick.2 := ⟨_, rfl⟩
      have HMS : Hid (ms = S.tick.2 ∧ ms.length ≤ 7) := Lib.hid ⟨hms, by rw [hms]; exact HFI.out.len⟩
      rw [← hms] at HTK
      clear hU hN hT hL h1 h2 h3 h4 hch hp hAl hms
      go_wp2_with fail
      refine HTK.out.mono ?_
      rintro e w2 ⟨D, cd, X2, rfl, hN2, hm2, hc2⟩
      have HPT := Lib.hid (nput_any hN2 hm2 (by rw [List.length_nil]; have := HMS.out.2; omega))
      have H2 := Lib.hid (And.intro hN2 hc2)
      clear hN2 hm2 hc2 c0 cg HTK
      obtain ⟨kk, hkk⟩ : ∃ k, k = ms.length := ⟨_, rfl⟩
      rw [← hkk] at HPT ⊢
      clear hkk
      go_wp2_with fail
      refine HPT.out.mono ?_
      rintro e w3 ⟨rfl, X3, zs, v3, hN3, hz3, hc3⟩
      have H3 := Lib.hid (And.intro hN3 (And.intro hz3 (hc3.mono (fun b hb => (H2.out.1.Xw b hb).1))))
      clear hN3 hz3 hc3 HPT
      have HRS := Lib.hid (turn_rest (w0 := w2') hlt hq150 HST.out.1.s rfl HST.out.2.1 (sv_at HST.out.2.2.2.2.2.2.2.2.2) HST.out.2.2.1 (Up.put H3.out.2.1 H3.out.1 (by rw [sv_set, HMS.out.1]; have := HST.out.1.s.tick (sv_at HST.out.2.2.2.2.2.2.2.2.2); exact this) (by rw [HMS.out.1]; exact HFI.out.ok)) (by rw [sv_set]) (H3.out.2.1.trans HMS.out.1) HST.out.2.2.2.2.1 HST.out.2.2.2.2.2.1 HST.out.2.2.2.2.2.2.1 HST.out.2.2.2.2.2.2.2.1 ((HST.out.2.2.2.2.2.2.2.2.1.trans H2.out.2).trans H3.out.2.2))
      go_wp2_with fail
      refine HRS.out.mono ?_
      rintro e w4 ⟨rfl, hTT⟩
      go_wp2_with fail
      go_roundw
      case rel => exact ⟨i + 1, by go_num, by omega, hTT⟩
      case measure => simp [intOf]; omega
    · have di : decide ((i : Int) < 2) = false := decide_eq_false (by omega)
      have hi2 : i = 2 := by omega
      subst hi2
      have hLd := hL (Nat.le_refl _)
      have hr2 : S.role = 2 := by have := hLd.r2; rw [fn_get (sv_at hp)] at this; exact this
      have HRO := Lib.hid (hU.m.tells hp HG1.out).2.1
      rw [hr2] at HRO
      have HLK := Lib.hid (look_any hU (by omega) (by omega) (by omega) (bu := Z.bud) rfl)
      have HLD := Lib.hid hLd
      clear hU hN hT hL h1 h2 h3 h4 hch hp hAl hr2 hLd
      go_wp2_with fail
      refine HRO.out.mono ?_
      rintro e w6 ⟨rfl, hw6⟩
      subst hw6
      go_wp2_with fail
      refine HLK.out.mono ?_
      rintro e w7 ⟨rfl, X7, Z7, v7, hU7, hs7, hl7, hc7⟩
      have hp := HST.out.2.2.2.2.2.2.2.2.2
      obtain ⟨gl7, hAl7, cg7⟩ := hU7.m.srvAt hp
      have c07 := hU7.m.c0
      rw [hU7.n, hAl7] at c07
      have HPR := Lib.hid (proposed hU7 (by omega) hp HLD.out HDS.out)
      have H7 := Lib.hid (And.intro hU7 (And.intro hs7 (And.intro hl7 hc7)))
      obtain ⟨K, hK⟩ : ∃ K, K = S.log.length + 1 := ⟨_, rfl⟩
      have HK := Lib.hid hK
      rw [← hK] at HPR
      have hK9 : K ≤ 5000 := by have := HG1.out.len; omega
      clear hU7 hs7 hl7 hc7 hp hAl7 hK c0 cg HLK
      go_wp2_with fail
      refine HPR.out.mono ?_
      rintro e w8 ⟨rfl, X8, hU8, hc8⟩
      obtain ⟨lg, hlg⟩ : ∃ z, z = S.log ++ [(⟨S.term, data⟩ : Ent)] := ⟨_, rfl⟩
      have HLG := Lib.hid hlg
      have H8 : Hid (Turned2 w2' gN n a q lg 0 w8) := by
        have hS' := hU8.s
        rw [sv_set] at hS'
        obtain ⟨r2, T, hJ⟩ := turn3 HLD.out H7.out.1.s (sv_at HST.out.2.2.2.2.2.2.2.2.2) (b := data) (e := q + 2 + 1) hS'
        have hx : ((ps.map (·.2)).set a (S.put data).agree)[a]? = some (S.put data).agree := List.getElem?_set_self (by rw [List.length_map, HST.out.1.n]; exact han)
        have hf := fn_get hx
        exact Lib.hid ⟨X8, _, Z7, v7, hU8, by rw [sv_set]; exact .inl ⟨rfl, T, by rw [hf, hlg]; exact hJ⟩, by rw [sv_set, hf]; exact ⟨han, r2⟩, by have := H7.out.2.1; omega, by have := H7.out.2.2.1.1; have := HST.out.2.2.2.2.2.1; omega, by have := H7.out.2.2.1.2; have := HST.out.2.2.2.2.2.2.1; omega, by have := H7.out.2.2.1.2; have := HST.out.2.2.2.2.2.2.2.1; omega,
          ((HST.out.2.2.2.2.2.2.2.2.1.trans H7.out.2.2.2).trans hc8)⟩
      have HLL : Hid (lg.length = K ∧ ∃ t, lg[K - 1]? = some ⟨t, data⟩) := Lib.hid ⟨by rw [hlg, List.length_append, List.length_singleton, HK.out], S.term, by rw [hlg, HK.out, Nat.add_sub_cancel, List.getElem?_append_right (Nat.le_refl _), Nat.sub_self]; rfl⟩
      clear hU8 hc8 hlg c07 cg7 HPR HRO H7 HST HLD HG1 HLG HK
      go_wp2_with fail
      go_loopw [16, 17] (fun s16 _ wr => ∃ i : Nat, s16 = .int .i64 (i : Nat) ∧ i ≤ 2 ∧ Turned2 w2' gN n a q lg i wr) (fun s16 _ _ => 2 - (intOf s16).toNat)
      case atStart => exact ⟨0, rfl, by omega, H8.out⟩
      case round =>
        clear H8
        obtain ⟨i, rfl, hi, X, ps, Z, v, hU, hP, hr2, h1, h2, h3, h4, hch⟩ := hrel
        obtain ⟨p, hp⟩ : ∃ p, ps[a]? = some p := ⟨_, List.getElem?_eq_getElem (by rw [hU.n]; exact han)⟩
        obtain ⟨g, S⟩ := p
        obtain ⟨gl, hAl, cg⟩ := hU.m.srvAt hp
        have c0 := hU.m.c0
        rw [hU.n, hAl] at c0
        have hr2 := hr2.2
        rw [fn_get (sv_at hp)] at hr2
        have HST := Lib.hid (And.intro hU (And.intro hP (And.intro hr2 (And.intro h1 (And.intro h2 (And.intro h3 (And.intro h4 (And.intro hch hp))))))))
        have HG1 := Lib.hid (hU.s.good (sv_at hp)).1
        by_cases hlt : i < 2
        · have di : decide ((i : Int) < 2) = true := decide_eq_true (by omega)
          have HTK := Lib.hid (ticked hU hp)
          have HFI := Lib.hid (tick_fine HG1.out)
          have HTE := Lib.hid (tick2 hr2)
          obtain ⟨ms, hms⟩ : ∃ z, z = S.tick.2 := ⟨_, rfl⟩
          have HMS : Hid (ms = S.tick.2 ∧ ms.length ≤ 7) := Lib.hid ⟨hms, by rw [hms]; exact HFI.out.len⟩
          rw [← hms] at HTK
          clear hU hP hr2 h1 h2 h3 h4 hch hp hAl hms
          go_wp2_with fail
          refine HTK.out.mono ?_
          rintro e w2 ⟨D, cd, X2, rfl, hN2, hm2, hc2⟩
          have HPT := Lib.hid (nput_any hN2 hm2 (by rw [List.length_nil]; have := HMS.out.2; omega))
          have H2 := Lib.hid (And.intro hN2 hc2)
          clear hN2 hm2 hc2 c0 cg HTK
          obtain ⟨kk, hkk⟩ : ∃ k, k = ms.length := ⟨_, rfl⟩
          rw [← hkk] at HPT ⊢
          clear hkk
          go_wp2_with fail
          refine HPT.out.mono ?_
          rintro e w3 ⟨rfl, X3, zs, v3, hN3, hz3, hc3⟩
          have H3 := Lib.hid (And.intro hN3 (And.intro hz3 (hc3.mono (fun b hb => (H2.out.1.Xw b hb).1))))
          clear hN3 hz3 hc3 HPT
          have HRS := Lib.hid (turn_rest2 (w0 := w2') (q := q) hlt hq150 (ps5 := ps) HST.out.2.1 (sv_at HST.out.2.2.2.2.2.2.2.2) (Up.put H3.out.2.1 (by have := H3.out.1; rw [HTE.out, set_same HST.out.2.2.2.2.2.2.2.2] at this; exact this) (by
            have := HST.out.1.s.tick (sv_at HST.out.2.2.2.2.2.2.2.2)
            rw [← sv_set _ _ g, HTE.out, set_same HST.out.2.2.2.2.2.2.2.2] at this
            rw [HMS.out.1, HTE.out]
            exact this) (by rw [HMS.out.1]; exact HFI.out.ok)) (by rw [H3.out.2.1, HMS.out.1, HTE.out]) HST.out.2.2.2.1 HST.out.2.2.2.2.1 HST.out.2.2.2.2.2.1 HST.out.2.2.2.2.2.2.1 ((HST.out.2.2.2.2.2.2.2.1.trans H2.out.2).trans H3.out.2.2))
          go_wp2_with fail
          refine HRS.out.mono ?_
          rintro e w4 ⟨rfl, hTT⟩
          go_wp2_with fail
          go_roundw
          case rel => exact ⟨i + 1, by go_num, by omega, hTT⟩
          case measure => simp [intOf]; omega
        · have di : decide ((i : Int) < 2) = false := decide_eq_false (by omega)
          have hi2 : i = 2 := by omega
          subst hi2
          have HLA : Hid (∀ (j : Nat) (x : Sv), (ps.map (·.2))[j]? = some x → x.log = lg ∧ x.commit = lg.length ∧ x.leader = a) := Lib.hid (fun j x hx => by
            rcases hP with ⟨e, _⟩ | ⟨e, _⟩ | ⟨_, T, q', hJ⟩
            · omega
            · omega
            · exact last hJ hU.s hx)
          have HLK := Lib.hid (look_any hU (by omega) (by omega) (by omega) (bu := Z.bud) rfl)
          obtain ⟨bu, hbu⟩ : ∃ z, z = Z.bud := ⟨_, rfl⟩
          have c13 := hU.m.c13
          rw [← hbu] at c13
          have db : ((bu : Int) == 0) = false := by simp; omega
          clear hU hP hr2 h1 h2 h3 h4 hch hp hAl hbu
          go_wp2_with fail
          refine HLK.out.mono ?_
          rintro e w6 ⟨rfl, X6, Z6, v6, hU6, hs6, hl6, hc6⟩
          have hp := HST.out.2.2.2.2.2.2.2.2
          obtain ⟨gl6, hAl6, cg6⟩ := hU6.m.srvAt hp
          have c06 := hU6.m.c0
          rw [hU6.n, hAl6] at c06
          have HLO := Lib.hid (hU6.m.tells hp HG1.out).2.2.2
          have HV6 := Lib.hid hAl6
          have HSA := Lib.hid (HLA.out a S (sv_at hp))
          have H6 := Lib.hid (And.intro hU6 (HST.out.2.2.2.2.2.2.2.1.trans hc6))
          rw [HSA.out.1] at HLO
          clear hU6 hs6 hl6 hc6 hp hAl6 c0 cg c13 db HLK
          go_wp2_with fail
          refine HLO.out.mono ?_
          rintro e w7 ⟨A7, c7, rfl, ho7, hb7⟩
          have H7 : Hid (Below w6.heap.size w6 w7 ∧ RdE w7 A7 lg) := Lib.hid ⟨hb7, .of_own ecell_len ho7 rfl⟩
          clear ho7 hb7 c06 cg6 HLO
          rw [HLL.out.1]
          go_wp2_with fail
          go_loopw [19] (fun s19 wr => ∃ j : Nat, s19 = .int .i64 (j : Nat) ∧ j ≤ n ∧ Below w7.heap.size w7 wr) (fun s19 _ => n - (intOf s19).toNat)
          case atStart => exact ⟨0, rfl, by omega, Below.refl _ _⟩
          case round =>
            obtain ⟨j, rfl, hj, hb⟩ := hrel
            have HB : Hid (Below w7.heap.size w7 wr ∧ Below w6.heap.size w6 wr) := Lib.hid ⟨hb, H7.out.1.trans (hb.mono H7.out.1.size)⟩
            have hN := H6.out.1.m.below HB.out.2
            have c0 := hN.c0
            rw [H6.out.1.n, HV6.out] at c0
            clear hb hN
            by_cases hlj : j < n
            · have dj : decide ((j : Int) < (n : Int)) = true := decide_eq_true (by omega)
              have j0 : (0 : Int) ≤ (j : Int) := by omega
              have j1 : (j : Int) < (n : Int) := by omega
              obtain ⟨p, hp⟩ : ∃ p, ps[j]? = some p := ⟨_, List.getElem?_eq_getElem (by rw [H6.out.1.n]; exact hlj)⟩
              obtain ⟨g', S'⟩ := p
              have hg' := (H6.out.1.s.good (sv_at hp)).1
              obtain ⟨e1, e2, e3⟩ := HLA.out j S' (sv_at hp)
              have HT := Lib.hid (fun W (hW : Below w6.heap.size w6 W) => (show (Calls Try.prog 13 #[.pointer (some ⟨g', 0, none⟩)] W (fun e w' => e = .returned (.int .i64 (K : Nat)) ∧ w' = W)) ∧ Calls Try.prog 23 #[.pointer (some ⟨g', 0, none⟩)] W (LogPost W lg) ∧ Calls Try.prog 12 #[.pointer (some ⟨g', 0, none⟩)] W (fun e w' => e = .returned (.int .i64 (a : Nat)) ∧ w' = W) by
                have h1 := (H6.out.1.m.below hW).tells hp hg'
                have h2 := (H6.out.1.m.below hW).leads hp hg'
                rw [e1, e2, HLL.out.1] at h1
                rw [e3] at h2
                exact ⟨h1.2.2.1, h1.2.2.2, h2⟩))
              have HC := Lib.hid (fun W (hW : Below w6.heap.size w6 W) => (show W.cell? ⟨gN, 0, none⟩ = some (.slice (some ⟨gl6, 0, none⟩) n v6.cl) ∧ W.cell? ⟨gl6, j, none⟩ = some (.pointer (some ⟨g', 0, none⟩)) from by
                have hN := H6.out.1.m.below hW
                obtain ⟨gl', e4, e5⟩ := hN.srvAt hp
                rw [HV6.out] at e4
                injection e4 with e4
                injection e4 with e4
                subst e4
                exact ⟨by rw [← H6.out.1.n, ← HV6.out]; exact hN.c0, e5⟩))
              have cg := (HC.out wr HB.out.2).2
              have HT1 := Lib.hid (HT.out wr HB.out.2).1
              have HT2 := Lib.hid (HT.out wr HB.out.2).2.1
              clear hp hg' e1 e2 e3
              go_wp2_with fail
              refine HT1.out.mono ?_
              rintro e w8 ⟨rfl, hw8⟩
              subst hw8
              go_wp2_with fail
              refine HT2.out.mono ?_
              rintro e w9 ⟨A9, c9, rfl, ho9, hb9⟩
              have H9 : Hid (Below w7.heap.size w7 w9 ∧ Below w6.heap.size w6 w9 ∧ RdE w9 A9 lg ∧ RdE w9 A7 lg) := Lib.hid ⟨HB.out.1.trans (hb9.mono HB.out.1.size), HB.out.2.trans (hb9.mono HB.out.2.size), .of_own ecell_len ho9 rfl, (H7.out.2.below HB.out.1).below hb9⟩
              have HSL := Lib.hid (sameLog_any A9 A7 c9 c7 lg w9 H9.out.2.2.1 H9.out.2.2.2 (by rw [HLL.out.1]; omega))
              rw [HLL.out.1] at HSL ⊢
              clear ho9 hb9 c0 cg
              go_wp2_with fail
              refine HSL.out.mono ?_
              rintro e w10 ⟨rfl, hb10⟩
              have H10 : Hid (Below w7.heap.size w7 w10 ∧ Below w6.heap.size w6 w10) := Lib.hid ⟨H9.out.1.trans (hb10.mono H9.out.1.size), H9.out.2.1.trans (hb10.mono H9.out.2.1.size)⟩
              have c0 := (HC.out w10 H10.out.2).1
              have cg := (HC.out w10 H10.out.2).2
              have HT3 := Lib.hid (HT.out w10 H10.out.2).2.2
              clear hb10
              go_wp2_with fail
              refine HT3.out.mono ?_
              rintro e w11 ⟨rfl, hw11⟩
              subst hw11
              go_wp2_with fail
              go_roundw
              case rel => exact ⟨j + 1, by go_num, by omega, H10.out.1⟩
              case measure => simp [intOf]; omega
            · have dj : decide ((j : Int) < (n : Int)) = false := decide_eq_false (by omega)
              obtain ⟨t, ht⟩ := HLL.out.2
              obtain ⟨b0, off, hE, _, _, k1⟩ := (H7.out.2.below HB.out.1).ents ht
              subst hE
              have HFI : Hid (Below w.heap.size w wr) := Lib.hid (HB1.out.trans (Below.mono (Chg.below (Below.refl w2'.heap.size w2') (show Chg (fun b => w2'.heap.size ≤ b) w2' wr by rw [← HG.out]; exact H6.out.2.trans (.of_below HB.out.2)) (Nat.le_refl _) (fun _ h => h)) HB1.out.size))
              have K0 : (0 : Int) ≤ (K : Int) - 1 := by have := HLL.out.1; have := (List.getElem?_eq_some_iff.1 ht).1; omega
              have K1 : (K : Int) - 1 < (K : Int) := by omega
              have K2 : ((K : Int) - 1).toNat = K - 1 := by omega
              dsimp only at k1
              clear ht
              go_wp2_with fail
              go_ret
              exact ⟨ret_bool (by simp), HFI.out⟩
end Go.Proofs.Ytjodglepaeomiaa
