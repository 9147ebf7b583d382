/- The walk of prompterlaw06.FrameFeeds: it returns true. -/
import Derived.Test.YtmoplkmfpobhaaaFfy
namespace Go.Proofs.Ytmoplkmfpobhaaa
open Go.RowKit

set_option maxRecDepth 100000 in
set_option maxHeartbeats 8000000 in
theorem feeds_walk (A : Option Addr) (c : Nat) (ls : List (List UInt8)) (w : World) (hr : RL w w.heap.size A ls) (hm : ls.length ≤ 9223372036854775807) :
    Calls Try.prog 7 #[.slice A ls.length c] w fun e w' => e = .returned (.bool true) ∧ Below w.heap.size w w' := by
  have HR := Lib.hid hr
  clear hr
  obtain ⟨N, hN⟩ : ∃ N, N = ls.length := ⟨_, rfl⟩
  rw [← hN] at hm ⊢
  have HN := Lib.hid hN
  clear hN
  go_enter Try.func7, Try.ntmps7
  go_wp2_with fail
  refine (awake_any w).mono ?_
  rintro e w1 ⟨rfl, hb1⟩
  have HB1 := Lib.hid hb1
  clear hb1
  by_cases h60 : 60 < N
  · go_wp2_with fail
    go_ret
    exact ⟨rfl, HB1.out⟩
  · go_wp2_with fail
    refine (new_any w1).mono ?_
    rintro e w2 ⟨rfl, hw2⟩
    go_wp2_with fail
    obtain ⟨br, ebr⟩ : ∃ b, b = w1.heap.size := ⟨_, rfl⟩
    have hs2 : w2.heap.size = br + 1 := by rw [← hw2, ebr]; simp
    rw [← ebr]
    rw [hs2]
    obtain ⟨bs, ebs⟩ : ∃ b, b = br + 1 := ⟨_, rfl⟩
    rw [← ebs]
    obtain ⟨w3, hw3⟩ : ∃ w3, w3 = w2.alloc (.cells #[.slice none 0 0, .int .i64 0, .int .i64 0] 48) := ⟨_, rfl⟩
    have hI0 : FInv w w3 br bs (bs + 1) [] 0 0 none 0 none 0 := by
      have k1 : Blk w2 br 43 #[.bool true, .slice none 0 0, .int .i64 0, .int .i64 0] := by rw [← hw2, ebr]; exact Blk.new w1 43 _
      have k2 : Blk w3 bs 48 #[.slice none 0 0, .int .i64 0, .int .i64 0] := by
        have h := Blk.new w2 48 #[.slice none 0 0, .int .i64 0, .int .i64 0]
        rw [hs2, ← ebs, ← hw3] at h
        exact h
      refine ⟨by rw [hw3]; exact k1.alloc _, k2, World.ownsRow_nil _ _ _ _, Reads.none_, fun ad h => absurd h (by simp), ?_, by rw [hw3]; simp; omega⟩
      rw [hw3, ← hw2]
      exact (HB1.out.alloc HB1.out.size _).alloc (by have := HB1.out.size; simp; omega) _
    rw [← hw3]
    have o1 : w.heap.size ≤ br := by have := HB1.out.size; omega
    have o2 : br < bs := by omega
    have HI0 := Lib.hid hI0
    clear hI0 hw3 hw2 hs2 ebr ebs
    go_loopw [3, 6] (fun s3 s6 wr => ∃ (k room : Nat) (left : List UInt8) (tk er : Nat) (Av : Option Addr) (cv : Nat) (As : Option Addr) (cs : Nat), s6 = .int .i64 k ∧ s3 = .int .i64 room ∧ k ≤ N ∧ left.length + room ≤ 3000 ∧ tk + left.length + room ≤ 3000 ∧ er ≤ 8 ∧ FInv w wr br bs (bs + 1) left tk er Av cv As cs) (fun _ s6 _ => N - (intOf s6).toNat)
    case atStart => exact ⟨0, 3000, [], 0, 0, none, 0, none, 0, rfl, rfl, by omega, by simp, by simp, by omega, HI0.out⟩
    case round =>
      obtain ⟨k, room, left, tk, er, Av, cv, As, cs, rfl, rfl, hk, hlr, htr, her, hI⟩ := hrel
      have HI := Lib.hid hI
      clear hI
      by_cases hlt : k < N
      · have hkl : k < ls.length := by rw [← HN.out]; exact hlt
        obtain ⟨b, off, Ap, cp, rfl, hc0, hrp⟩ := HR.out.at_ hkl
        obtain ⟨p, hp⟩ : ∃ p, p = ls[k] := ⟨_, rfl⟩
        rw [← hp] at hc0 hrp
        have hboff : b < w.heap.size := by
          obtain ⟨us, hru, _⟩ := HR.out
          obtain ⟨ad, h1, h2, _⟩ := hru.2 (by omega)
          cases h1
          exact h2
        have HRP := Lib.hid hrp
        have HC0 := Lib.hid hc0
        have hc1 : wr.cell? ⟨b, off + k, none⟩ = some (.slice Ap p.length cp) := (HI.out.below.cell (p := ⟨b, off + k, none⟩) hboff).trans HC0.out
        clear hp hrp hkl hc0
        by_cases hroom : room < p.length
        · go_wp2_with fail
          go_ret
          exact ⟨rfl, HI.out.below⟩
        · have hcv := run_str_reads (P := Try.prog) wr 22 9 5 w.heap.size Ap cp p Try.underlying22 Try.underlying5 Try.underlying9 (HRP.out.below HI.out.below)
          have hsb := fun W => run_bytes_of_string (P := Try.prog) W 9 22 5 (⟨p.toArray⟩ : ByteArray) Try.underlying9 Try.underlying22 Try.underlying5
          go_wp2_with fail
          clear hcv hsb hc1
          obtain ⟨bi, hbi⟩ : ∃ b, b = wr.heap.size := ⟨_, rfl⟩
          have HBI := Lib.hid hbi
          rw [← hbi]
          have hwrs := HI.out.size
          rw [← hbi] at hwrs
          obtain ⟨C, hC⟩ : ∃ C, C = bytesRow (⟨p.toArray⟩ : ByteArray) (grownCap wr p.length 0 5) := ⟨_, rfl⟩
          have hCg : ∀ j u, (bcells p)[j]? = some u → C[j]? = some u := fun j u hu => by
            rw [hC]
            unfold bytesRow
            have hj : j < p.length := by have := (List.getElem?_eq_some_iff.1 hu).1; rwa [bcells_length] at this
            rw [Array.getElem?_append_left (by simpa using hj)]
            rw [bcells_get p j hj] at hu
            simp only [List.map_toArray, List.getElem?_toArray, List.getElem?_map, List.getElem?_eq_getElem hj, Option.map_some]
            exact hu
          have hCn : p.length ≤ C.size := by rw [hC]; simp [bytesRow]
          rw [← hC]
          obtain ⟨wA, hwA⟩ : ∃ wA, wA = (wr.alloc (.cells C 5 (C.size, C.size + 1))).drew := ⟨_, rfl⟩
          have hAs : wA.heap.size = bi + 1 := by rw [hwA, hbi]; simp [World.drew]
          have hAh : wA.heap[bi]? = some (.cells C 5 (C.size, C.size + 1)) := by rw [hwA, hbi]; exact heap_alloc_new wr _
          have cA : Chg (fun _ => False) wr wA := by rw [hwA]; exact ((Chg.refl _ wr).alloc _).drew
          rw [← hwA]
          have rA : Reads wA wA.heap.size 1 (some ⟨bi, 0, none⟩) p.length (bcells p) :=
            ⟨by rw [bcells_length, Nat.mul_one], fun _ => ⟨_, rfl, by show bi < _; omega, fun j u hu => by rw [addr_add, Nat.zero_add, cell_of_row wA bi j C 5 _ hAh]; exact hCg j u hu⟩⟩
          have iA := HI.out.chg cA (fun k h => h.elim)
          clear hwA hC
          refine (feed_all br Av cv tk left er (bs + 1) (some ⟨bi, 0, none⟩) p.length _ p wA iA.r iA.own iA.size rfl (by omega) (by omega) rA).mono ?_
          rintro e w5 ⟨v5, Av', cv', mid, rfl, r5, o5, l5, m1, m2, m3, m4, c5⟩
          have hown : ∀ g, (Value.slice Av left.length cv).ownBlock = some g → g < bi := fun g hg => by rw [hbi]; exact (World.ownsRow.lt HI.out.own g hg).2
          have h5h : w5.heap[bi]? = some (.cells C 5 (C.size, C.size + 1)) := (c5.block bi (by omega) (fun h => by
            rcases h with h | h
            · omega
            · have := hown bi h; omega)).trans hAh
          have b5 : Below w.heap.size w w5 := Chg.below iA.below c5 iA.below.size (fun k h => by
            rcases h with h | h
            · omega
            · have := (World.ownsRow.lt iA.own k h).1; omega)
          obtain ⟨n2, hn2⟩ := And.intro (nl_len left tk er p).1 (nl_len left tk er p).2
          have hel := nerr_le left er p her (by rw [List.length_append]; omega)
          have hbl := nb_len left er p
          obtain ⟨Al, cl, rfl, _⟩ := l5.form
          have HF5 := Lib.hid (And.intro r5 (And.intro o5 (And.intro l5 (And.intro m1 (And.intro m2 (And.intro m3 (And.intro m4 (And.intro c5 b5))))))))
          have HA := Lib.hid (And.intro cA (And.intro hAs hwrs))
          obtain ⟨z, hz⟩ : ∃ z, z = C.size := ⟨_, rfl⟩
          rw [← hz] at h5h hCn
          have H5H := Lib.hid (And.intro h5h hz)
          clear r5 o5 l5 m1 m2 m3 m4 c5 b5 cA hAs hAh rA iA hown h5h hCg hz hbi
          obtain ⟨bo, hbo⟩ : ∃ bo, bo = nb left er p := ⟨_, rfl⟩
          have HBO := Lib.hid hbo
          rw [← hbo] at hbl ⊢
          clear hbo
          obtain ⟨er2, her2⟩ : ∃ e, e = nerr left er p := ⟨_, rfl⟩
          have HER2 := Lib.hid her2
          rw [← her2] at hel ⊢
          clear her2
          go_wp2_with fail
          obtain ⟨wo, rfl⟩ : ∃ wo : World, wo = wr := ⟨_, rfl⟩
          go_loopw [10] (fun s wx => ∃ j : Nat, s = .int .i64 j ∧ j ≤ p.length ∧ Chg (fun k => k = bi) w5 wx ∧ ∃ C' : Array Value, wx.heap[bi]? = some (.cells C' 5 (z, z + 1)) ∧ C'.size = z) (fun s _ => p.length - (intOf s).toNat)
          case atStart => exact ⟨0, rfl, Nat.zero_le _, Chg.refl _ _, C, H5H.out.1, H5H.out.2.symm⟩
          case round =>
            obtain ⟨j, rfl, hj, cx, C', hxh, hxz⟩ := hrel
            by_cases hjl : j < p.length
            · obtain ⟨vj, hcell⟩ : ∃ vj, wr.cell? ⟨bi, j, none⟩ = some vj := ⟨C'[j], by rw [cell_of_row wr bi j C' 5 _ hxh]; exact Array.getElem?_eq_getElem (by omega)⟩
              have hfr : wr.frozen? ⟨bi, j, none⟩ = false := by simp [World.frozen?, hxh]; omega
              have HCX := Lib.hid (And.intro cx (And.intro hxh hxz))
              clear cx hxh hxz
              go_wp2_with fail
              go_roundw
              case rel =>
                refine ⟨j + 1, by go_num, by omega, HCX.out.1.setCell (p := ⟨bi, j, none⟩) rfl _, C'.setIfInBounds j (.int .u8 99), ?_, by rw [Array.size_setIfInBounds]; exact HCX.out.2.2⟩
                simp [World.setCell, Array.getElem?_modify, HCX.out.2.1]
              case measure => simp [intOf]; omega
            · obtain ⟨r5, o5, l5, m1, m2, m3, m4, c5, b5⟩ := HF5.out
              obtain ⟨cA, hAs, hwrs2⟩ := HA.out
              have hcw := cx.size
              have hc5 := c5.size
              have bx : Below w.heap.size w wr := Chg.below b5 cx b5.size (fun k h => by
                have h' : k = bi := h
                have := HBI.out
                have := HI.out.below.size
                omega)
              have hc1 : wr.cell? ⟨b, off + k, none⟩ = some (.slice Ap p.length cp) := (bx.cell (p := ⟨b, off + k, none⟩) hboff).trans HC0.out
              have hbs : ¬ (bs = br ∨ (Value.slice Av left.length cv).ownBlock = some bs) := fun h => by
                rcases h with h | h
                · omega
                · have := (World.ownsRow.lt HI.out.own bs h).1; omega
              have hbib : wo.heap.size = bi := HBI.out.symm
              have hbsx : bs ≠ bi := by omega
              have sx := ((HI.out.s.chg cA (fun h => h)).chg c5 hbs).chg cx hbsx
              have rdx : Reads wr wr.heap.size 1 As left.length (bcells left) :=
                ((((HI.out.reads.chg cA (Nat.le_refl _) (fun _ _ _ h => h)).chg c5 (by omega) (fun ad h0 e h => by
                  rcases h with h | h
                  · have := (HI.out.apart ad h0 e).1; omega
                  · exact (HI.out.apart ad h0 e).2 h)).chg cx (by omega) (fun ad h0 e h => by
                    have h' : ad.block = bi := h
                    obtain ⟨ad2, e2, hb2, _⟩ := HI.out.reads.2 h0
                    rw [e] at e2
                    injection e2 with e2
                    rw [← e2] at hb2
                    omega)).more (by omega))
              have rpx := (HRP.out.below bx).more bx.size
              have HX := Lib.hid (And.intro cx bx)
              clear r5 o5 l5 m1 m2 m3 m4 c5 b5 cA hAs hwrs2 cx bx hxh hxz hbs hbsx
              go_wp2_with fail
              clear hc1
              refine (rfeed_all bs As cs tk left er Ap p.length cp p wr sx rdx rfl (by omega) (by omega) rpx).mono ?_
              rintro e w7 ⟨v7, As', cs', rfl, s7, rd7, a1, a2, l7, c7⟩
              obtain ⟨r5, o5, l5, m1, m2, m3, m4, c5, b5⟩ := HF5.out
              obtain ⟨cA, hAs, hwrs2⟩ := HA.out
              have hI7 := FInv.next HI.out o1 o2 (Nat.lt_succ_self bs) cA (by omega) r5 o5 m2 m3 m4 c5 (by rw [hbib]; exact HX.out.1) s7 rd7 a1 a2 c7
              have hlb7 : LB w7 wA.heap.size mid (.slice Al (nb left er p).length cl) (nb left er p) := (l5.chg HX.out.1 (fun k h1 _ h3 => by have h' : k = bi := h3; omega)).chg c7 (fun k h1 _ h3 => by have h' : k = bs := h3; omega)
              obtain ⟨Am, cm, rfl, _⟩ := l7.form
              have hs7 := c7.size
              have hobx : ∀ g, (Value.slice Av' (nl left er p).length cv').ownBlock = some g → g < wA.heap.size ∨ mid ≤ g := fun g hg => by
                by_cases he : er = 0
                · exact .inr (m3 he g hg)
                · left
                  have h2 := m4 he
                  have h4 : nl left er p = left := if_neg he
                  subst h2
                  have h3 : (Value.slice Av' left.length cv).ownBlock = some g := by
                    cases Av' with
                    | none => simp [Value.ownBlock] at hg
                    | some a => simpa [Value.ownBlock] using hg
                  have := (World.ownsRow.lt HI.out.own g h3).2
                  omega
              have hasx : ∀ ad, 0 < (nl left er p).length → As' = some ad → ad.block < wA.heap.size ∨ mid ≤ ad.block := fun ad h0 e => by
                by_cases he : er = 0
                · right; have := a1 he ad h0 e; omega
                · left
                  have h2 := a2 he
                  have h4 : nl left er p = left := if_neg he
                  rw [h4] at h0
                  subst h2
                  obtain ⟨ad2, e2, hb2, _⟩ := HI.out.reads.2 h0
                  rw [e] at e2
                  injection e2 with e2
                  rw [← e2] at hb2
                  omega
              rw [← HBO.out, ← HER2.out]
              rw [← HBO.out] at hlb7 l7
              rw [← HER2.out] at hI7
              obtain ⟨lf, hlf⟩ : ∃ lf, lf = nl left er p := ⟨_, rfl⟩
              obtain ⟨tk2, htk2⟩ : ∃ t, t = nt tk left er p := ⟨_, rfl⟩
              rw [← hlf, ← htk2] at hI7
              rw [← hlf] at hobx hasx
              have hll : lf.length ≤ left.length + p.length ∧ tk2 + lf.length ≤ tk + left.length + p.length := by rw [hlf, htk2]; exact ⟨n2, hn2⟩
              have HL7 := Lib.hid (And.intro hlb7 (And.intro l7 (And.intro hI7 (And.intro hobx hasx))))
              have HSZ : wA.heap.size = bi + 1 ∧ mid ≤ w7.heap.size ∧ wA.heap.size ≤ mid := ⟨hAs, by omega, m2⟩
              obtain ⟨z1, z2, z3⟩ := HSZ
              have q0 : w7.cell? ⟨bs, 0, none⟩ = some (.slice As' lf.length cs') := hI7.s.cell 0
              have q1 : w7.cell? ⟨bs, 1, none⟩ = some (.int .i64 (tk2 : Nat)) := hI7.s.cell 1
              clear r5 o5 l5 m1 m2 m3 m4 c5 b5 cA hAs hwrs2 hI7 hlb7 l7 hobx hasx s7 rd7 a1 a2 c7 hlf htk2 sx rdx rpx HX hbib n2 hn2
              go_wp2_with fail
              have hsame : ∀ W, Below w7.heap.size w7 W → Calls Try.prog 19 #[.slice Al bo.length cl, .slice Am bo.length cm] W fun e w' => e = .returned (.bool true) ∧ ∃ m, w' = W.drewN m := fun W hW => by
                have h := same_any Al Am cl cm bo bo W w7.heap.size (HL7.out.1.ll.rl.below hW) (HL7.out.2.1.rl.below hW) (by omega)
                rw [decide_eq_true rfl] at h
                exact h
              have HSM := Lib.hid hsame
              clear hsame
              go_quiet (first
                | (go_at_call 19; exact Calls.quiet_of (HSM.out _ (drewN_below (Below.refl _ _) _)))
                | (go_at_call 21; exact Calls.quiet_of_same (left_any br Av' lf.length cv' tk2 er2 _ HL7.out.2.2.1.r))
                | (go_at_call 22; exact Calls.quiet_of_same (taken_any br _ tk2 er2 _ HL7.out.2.2.1.r)))
              go_wp2_with fail
              have HI8 := Lib.hid (HL7.out.2.2.1.chg ((Chg.refl (fun _ => False) w7).drewN nq) (fun k h => h.elim))
              have HA8 := Lib.hid ((HL7.out.1.chg ((Chg.refl (fun _ => False) w7).drewN nq) (fun k _ _ h => h)).la)
              have HOB := Lib.hid HL7.out.2.2.2
              clear HSM HL7 q0 q1
              obtain ⟨wx, rfl⟩ : ∃ wx : World, wx = wr := ⟨_, rfl⟩
              generalize w7.drewN nq = w8 at *
              go_loopw [13] (fun s wz => ∃ i : Nat, s = .int .i64 i ∧ i ≤ bo.length ∧ LA wz wA.heap.size mid (.slice Al bo.length cl) bo.length ∧ Chg (fun k => wA.heap.size ≤ k ∧ k < mid) w8 wz) (fun s _ => bo.length - (intOf s).toNat)
              case atStart => exact ⟨0, rfl, Nat.zero_le _, HA8.out, Chg.refl _ _⟩
              case round =>
                obtain ⟨i, rfl, hi, hla, cz⟩ := hrel
                by_cases hil : i < bo.length
                · obtain ⟨g, c2, A2, l2, c3, hv, hcl, hl2, hst⟩ := hla.cell hil
                  injection hv with ev1 ev2 ev3
                  subst ev1
                  clear ev2 ev3 hst
                  have HZ := Lib.hid (And.intro hla (And.intro cz hcl))
                  clear hla cz
                  obtain ⟨wz, rfl⟩ : ∃ wz : World, wz = wr := ⟨_, rfl⟩
                  go_wp2_with fail
                  clear hcl
                  go_loopw [14] (fun s wq => ∃ q : Nat, s = .int .i64 q ∧ q ≤ l2 ∧ LA wq wA.heap.size mid (.slice (some ⟨g, 0, none⟩) bo.length cl) bo.length ∧ Chg (fun k => wA.heap.size ≤ k ∧ k < mid) w8 wq ∧ wq.cell? ⟨g, i, none⟩ = some (.slice A2 l2 c3)) (fun s _ => l2 - (intOf s).toNat)
                  case atStart => exact ⟨0, rfl, Nat.zero_le _, HZ.out.1, HZ.out.2.1, HZ.out.2.2⟩
                  case round =>
                    obtain ⟨q, rfl, hq, hla2, cq, hcq⟩ := hrel
                    by_cases hql : q < l2
                    · obtain ⟨g', c2', A2', l2', c3', hv', hcl', hl2', hst'⟩ := hla2.cell hil
                      injection hv' with ev1 ev2 ev3
                      injection ev1 with ev1
                      injection ev1 with ev1
                      subst ev1
                      rw [hcq] at hcl'
                      injection hcl' with hcl'
                      injection hcl' with ea eb ec
                      subst ea eb
                      obtain ⟨bb, xv, rfl, hgb, hcx, hfx, hlo, hhi, hset⟩ := hst' q hql
                      have hset98 := hset 98
                      have e98 : (((98 : UInt8).toNat : Nat) : Int) = 98 := rfl
                      rw [e98] at hset98
                      have HQ := Lib.hid (And.intro hset98 (And.intro cq hcq))
                      clear ev2 ev3 ec hst' hset hset98 e98 cq hla2 hl2'
                      go_wp2_with fail
                      go_roundw
                      case rel => exact ⟨q + 1, by go_num, by omega, HQ.out.1, HQ.out.2.1.setCell (p := ⟨bb, q, none⟩) ⟨hlo, hhi⟩ _, (World.cell?_setCell_other _ _ _ _ (fun e => by injection e with e1; exact hgb e1.symm)).trans HQ.out.2.2⟩
                      case measure => simp [intOf]; omega
                    · have HQ := Lib.hid (And.intro hla2 cq)
                      clear hla2 cq
                      go_wp2_with fail
                      go_roundw
                      case rel => exact ⟨i + 1, by go_num, by omega, HQ.out.1, HQ.out.2⟩
                      case measure => simp [intOf]; omega
                · have hI9 := HI8.out.chg cz (fun k h => by
                    obtain ⟨h1, h2⟩ := h
                    have := HI.out.below.size
                    refine ⟨by omega, by omega, by omega, fun e => ?_, fun ad h0 e he => ?_⟩
                    · rcases HOB.out.1 k e with h3 | h3 <;> omega
                    · rcases HOB.out.2 ad h0 e with h3 | h3 <;> omega)
                  have q0 : wr.cell? ⟨bs, 0, none⟩ = some (.slice As' lf.length cs') := hI9.s.cell 0
                  have HI9 := Lib.hid hI9
                  clear hI9 hla cz
                  by_cases he2 : er2 = 0
                  · subst he2
                    go_wp2_with fail
                    go_quiet (fail)
                    go_wp2_with fail
                    go_roundw
                    case rel => exact ⟨k + 1, room - p.length, lf, tk2, 0, Av', cv', As', cs', by go_num, congrArg (Value.int .i64) (by omega), by omega, by omega, by omega, by omega, HI9.out.chg ((Chg.refl (fun _ => False) wr).drewN _) (fun k h => h.elim)⟩
                    case measure => simp [intOf]; omega
                  · have hne : ((er2 : Int) != 0) = true := by rw [bne_iff_ne]; omega
                    clear he2
                    go_wp2_with fail
                    go_quiet ((go_at_call 21; exact Calls.quiet_of_same (left_any br Av' lf.length cv' tk2 er2 _ HI9.out.r)))
                    go_wp2_with fail
                    go_roundw
                    case rel => exact ⟨k + 1, room - p.length, lf, tk2, er2, Av', cv', As', cs', by go_num, congrArg (Value.int .i64) (by omega), by omega, by omega, by omega, hel, HI9.out.chg ((Chg.refl (fun _ => False) wr).drewN _) (fun k h => h.elim)⟩
                    case measure => simp [intOf]; omega
      · go_wp2_with fail
        go_ret
        exact ⟨rfl, HI.out.below⟩
end Go.Proofs.Ytmoplkmfpobhaaa
