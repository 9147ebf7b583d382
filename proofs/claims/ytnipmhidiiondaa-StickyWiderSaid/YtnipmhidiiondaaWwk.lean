/- The walk of prompterlaw19.StickyWider: it returns true. -/
import Derived.StillTailTactics
import Derived.Outline
import Derived.Test.YtnipmhidiiondaaWid
namespace Go.Proofs.Ytnipmhidiiondaa
open Go.RowKit Go.Maps

set_option maxRecDepth 100000 in
set_option maxHeartbeats 1000000 in
theorem stickyWider_walk (R M : Int) (A : Option Addr) (l : List Stp) (c : Nat) (w : World) (hR : -9223372036854775808 ≤ R ∧ R ≤ 9223372036854775807) (hM : -9223372036854775808 ≤ M ∧ M ≤ 9223372036854775807) (hl : RdS w A l) (hlen : l.length ≤ 9223372036854775807) (hnm : ∀ s ∈ l, s.name.size ≤ maxLen) :
    Calls Try.prog 3 #[.int .i64 R, .int .i64 M, .slice A l.length c] w fun e w' => e = .returned (.bool true) ∧ Below w.heap.size w w' := by
  obtain ⟨n, hn⟩ : ∃ n, n = l.length := ⟨_, rfl⟩
  rw [← hn] at hlen ⊢
  have HN := Lib.hid hn
  have HL := Lib.hid hl
  have HNM := Lib.hid hnm
  clear hn hl hnm
  obtain ⟨hR1, hR2⟩ := hR
  obtain ⟨hM1, hM2⟩ := hM
  go_enter Try.func3, Try.ntmps3
  go_wp2_with fail
  refine (awake_any w).mono ?_
  rintro e w1 ⟨rfl, hb1⟩
  have HB1 := Lib.hid hb1
  clear hb1
  by_cases hlong : 100 < n
  · have hd : decide ((100 : Int) < (n : Int)) = true := decide_eq_true (by omega)
    go_wp2_with fail
    go_ret
    exact ⟨rfl, HB1.out⟩
  · have hd : decide ((100 : Int) < (n : Int)) = false := decide_eq_false (by omega)
    by_cases hlt : M < R
    · have hd2 : decide (M < R) = true := decide_eq_true hlt
      go_wp2_with fail
      go_ret
      exact ⟨rfl, HB1.out⟩
    · have hd2 : decide (M < R) = false := decide_eq_false hlt
      cases hmR : mayB R
      · have HMR := Lib.hid (new_bad R w1 hmR)
        have hmR' : R < 1 ∨ 4096 < M := by unfold mayB at hmR; simp at hmR; omega
        cases hmM : mayB M
        · have HMM := Lib.hid (new_bad M w1 hmM)
          clear hmR hmM
          go_wp2_with fail
          refine HMR.out.mono ?_
          rintro e w2 ⟨rfl, hw2⟩
          rw [hw2]
          clear hw2 w2
          go_wp2_with fail
          refine HMM.out.mono ?_
          rintro e w2 ⟨rfl, hw2⟩
          rw [hw2]
          clear hw2 w2
          by_cases h1 : R < 1
          · have hd3 : decide (R < 1) = true := decide_eq_true h1
            clear hmR'
            go_wp2_with fail
            go_ret
            exact ⟨rfl, HB1.out⟩
          · have hd3 : decide (R < 1) = false := decide_eq_false h1
            have hd4 : decide (4096 < M) = true := decide_eq_true (by omega)
            clear hmR'
            go_wp2_with fail
            go_ret
            exact ⟨rfl, HB1.out⟩
        · have hM3 : 1 ≤ M ∧ M ≤ 4096 := by unfold mayB at hmM; simpa using hmM
          obtain ⟨m, rfl⟩ : ∃ m : Nat, M = (m : Int) := ⟨M.toNat, by omega⟩
          have HMM := Lib.hid (new_any m w1 (by omega) (by omega))
          have h1 : R < 1 := by omega
          have hd3 : decide (R < 1) = true := decide_eq_true h1
          clear hmR hmM hmR' hM3
          go_wp2_with fail
          refine HMR.out.mono ?_
          rintro e w2 ⟨rfl, hw2⟩
          rw [hw2]
          clear hw2 w2
          go_wp2_with fail
          refine HMM.out.mono ?_
          rintro e w2 ⟨gd, pd, rfl, hcd, hbd, hod⟩
          have HBD := Lib.hid (HB1.out.trans (hbd.mono HB1.out.size))
          clear hcd hbd hod
          go_wp2_with fail
          go_ret
          exact ⟨rfl, HBD.out⟩
      · have hR3 : 1 ≤ R ∧ R ≤ 4096 := by unfold mayB at hmR; simpa using hmR
        obtain ⟨r, rfl⟩ : ∃ r : Nat, R = (r : Int) := ⟨R.toNat, by omega⟩
        have HMR := Lib.hid (new_any r w1 (by omega) (by omega))
        cases hmM : mayB M
        · have HMM := Lib.hid (fun W => new_bad M W hmM)
          have h4 : 4096 < M := by unfold mayB at hmM; simp at hmM; omega
          have hd3 : decide ((r : Int) < 1) = false := decide_eq_false (by omega)
          have hd4 : decide (4096 < M) = true := decide_eq_true h4
          clear hmR hmM
          go_wp2_with fail
          refine HMR.out.mono ?_
          rintro e w2 ⟨gd, pd, rfl, hcd, hbd, hod⟩
          have HBD := Lib.hid (HB1.out.trans (hbd.mono HB1.out.size))
          clear hcd hbd hod
          go_wp2_with fail
          refine (HMM.out w2).mono ?_
          rintro e w3 ⟨rfl, hw3⟩
          rw [hw3]
          clear hw3 w3
          go_wp2_with fail
          go_ret
          exact ⟨rfl, HBD.out⟩
        · have hM3 : 1 ≤ M ∧ M ≤ 4096 := by unfold mayB at hmM; simpa using hmM
          obtain ⟨m, rfl⟩ : ∃ m : Nat, M = (m : Int) := ⟨M.toNat, by omega⟩
          have HMM := Lib.hid (fun W => new_any m W (by omega) (by omega))
          have hrm : r ≤ m := by omega
          clear hmR hmM hM3 hR3
          go_wp2_with fail
          refine HMR.out.mono ?_
          rintro e w2 ⟨gc, pc, rfl, hcc, hbc, hoc⟩
          have HC := Lib.hid (And.intro hcc (And.intro hbc hoc))
          clear hcc hbc hoc
          go_wp2_with fail
          refine (HMM.out w2).mono ?_
          rintro e w3 ⟨gd, pd, rfl, hcd, hbd, hod⟩
          have HT : Hid (Two w w.heap.size gc ⟨r, [], 0, 0⟩ gd ⟨m, [], 0, 0⟩ pc pd w3) :=
            ⟨HC.out.1.below hbd, hcd, fun b h1 h2 => by have := HC.out.1.lt b h1; have := hod b h2; omega, fun b hb => Nat.le_trans HB1.out.size (HC.out.2.2 b hb), fun b hb => Nat.le_trans HB1.out.size (Nat.le_trans HC.out.2.1.size (hod b hb)), HB1.out.trans ((HC.out.2.1.mono HB1.out.size).trans (hbd.mono (Nat.le_trans HB1.out.size HC.out.2.1.size))), Nat.le_trans HB1.out.size (Nat.le_trans HC.out.2.1.size hbd.size)⟩
          clear hcd hbd hod HC
          go_wp2_with fail
          go_loopw [11] (fun s11 wr => ∃ (k : Nat) (Ac Ad : Abs) (pc pd : Pls), s11 = .int .i64 k ∧ k ≤ n ∧ Two w w.heap.size gc Ac gd Ad pc pd wr ∧ Ac.room = r ∧ Ad.room = m ∧ WI r Ac.L Ad.L ∧ Ac.hits ≤ k ∧ Ac.misses ≤ k ∧ Ad.hits ≤ k ∧ Ad.misses ≤ k) (fun s11 _ => n - (intOf s11).toNat)
          case atStart => exact ⟨0, _, _, pc, pd, rfl, by omega, HT.out, rfl, rfl, ⟨List.Sublist.refl _, fun _ => rfl⟩, Nat.le_refl _, Nat.le_refl _, Nat.le_refl _, Nat.le_refl _⟩
          case round =>
            clear HT
            obtain ⟨k, Ac, Ad, pc, pd, rfl, hk, ht, hrc, hrd, hwi, hh1, hh2, hh3, hh4⟩ := hrel
            have HT := Lib.hid ht
            have HW := Lib.hid (And.intro hrc (And.intro hrd hwi))
            clear ht hrc hrd hwi
            by_cases hkn : k < n
            · obtain ⟨s, hs⟩ : ∃ s, l[k]? = some s := ⟨_, List.getElem?_eq_getElem (by rw [← HN.out]; exact hkn)⟩
              have HSM : Hid (s.name.size ≤ maxLen) := HNM.out s (List.mem_of_getElem? hs)
              obtain ⟨b, o, rfl, hlt2, hat⟩ : ∃ b off, A = some ⟨b, off, none⟩ ∧ b < wr.heap.size ∧ ∀ k s, l[k]? = some s → StpAt wr b (off + k * 3) s := (HL.out.keep HT.out.bel).resolve_left (fun h => by rw [h] at hs; cases hs)
              obtain ⟨c0, c1, c2⟩ := hat k s hs
              have HSW : Hid (∀ W, Below w.heap.size w W → StpAt W b (o + k * 3) s) := fun W hW => by
                obtain ⟨b', o', hA', _, hat'⟩ := (HL.out.keep hW).resolve_left (fun h => by rw [h] at hs; cases hs)
                injection hA' with hA'
                injection hA' with hA1 hA2
                subst hA1; subst hA2
                exact hat' k s hs
              have hk0 : (0 : Int) ≤ (k : Int) := by omega
              have hkn2 : (k : Int) < (n : Int) := by omega
              clear hs hat hlt2
              obtain ⟨op, name, v⟩ := s
              dsimp only at c0 c1 c2 HSM
              by_cases h0 : op = 0
              · have hb0 : ((op : Int) == 0) = true := by rw [h0]; rfl
                clear h0
                go_wp2_with fail
                go_still_tail 11, (by kernel_rfl)
                go_wp2_with fail
                refine (put_any gc Ac pc name v wr.drew (HT.out.c.below (Below.refl _ _).drew) HSM.out).mono ?_
                rintro e w5 ⟨rfl, hk5⟩
                obtain ⟨pc2, ht5⟩ := (HT.out.below (Below.refl _ _).drew).left hk5
                have HT5 := Lib.hid ht5
                have HSD : Hid (Below wr.heap.size wr wr.drew) := (Below.refl _ _).drew
                clear hk5 ht5
                obtain ⟨d0, d1, d2⟩ := HSW.out w5 HT5.out.bel
                clear c0 c1 c2
                go_wp2_with fail
                go_still_tail 11, (by kernel_rfl)
                go_wp2_with fail
                refine (put_any gd Ad pd name v w5.drew (HT5.out.d.below (Below.refl _ _).drew) HSM.out).mono ?_
                rintro e w6 ⟨rfl, hk6⟩
                obtain ⟨pd2, ht6⟩ := (HT5.out.below (Below.refl _ _).drew).right hk6
                have HT2 := Lib.hid ht6
                have HWI := Lib.hid (WI.put (M := m) HW.out.2.2 v HT.out.c.facts.1 HT.out.d.facts.1 hrm (by have := HT.out.c.facts.2.1; rw [HW.out.1] at this; exact this) (s := name))
                rw [← HW.out.1] at HWI
                have HWI2 : Hid (WI r (putA Ac name v).L (putA Ad name v).L) := by have h := HWI.out; rw [HW.out.1] at h; unfold putA; rw [HW.out.1, HW.out.2.1]; exact h
                clear hk6 ht6 HT5 HT d0 d1 d2
                go_wp2_with fail
                refine (names_any gc (putA Ac name v) pc2 w6 HT2.out.c).mono ?_
                rintro e wn1 ⟨An1, cn1, rfl, hn1o, hn1b⟩
                generalize hnl1 : (List.map (fun x : Ent => x.1) (putA Ac name v).L).length = nl1 at *
                have HNL1 := Lib.hid hnl1
                clear hnl1
                have HN1 := Lib.hid (And.intro hn1o hn1b)
                have HT3 := Lib.hid (HT2.out.below hn1b)
                clear hn1o hn1b
                go_wp2_with fail
                refine (names_any gd (putA Ad name v) pd2 wn1 HT3.out.d).mono ?_
                rintro e wn2 ⟨An2, cn2, rfl, hn2o, hn2b⟩
                generalize hnl2 : (List.map (fun x : Ent => x.1) (putA Ad name v).L).length = nl2 at *
                have HNL2 := Lib.hid hnl2
                clear hnl2
                have HT4 := Lib.hid (HT3.out.below hn2b)
                have HAM := Lib.hid (among_any An1 An2 cn1 cn2 _ _ _ _ wn2 (own_rdT (own_below HN1.out.1 hn2b) HNL1.out.symm) (own_rdT hn2o HNL2.out.symm) HNL1.out.symm HNL2.out.symm (by have := HT4.out.c.facts; have h := HNL1.out; rw [List.length_map] at h; omega) (by have := HT4.out.d.facts; have h := HNL2.out; rw [List.length_map] at h; omega))
                clear hn2o hn2b
                go_wp2_with fail
                refine HAM.out.mono ?_
                rintro e wn3 ⟨rfl, q, hw3⟩
                rw [hw3, amg_sub (HWI2.out.1.map _)]
                have HT5 := Lib.hid (HT4.out.below (below_drewN (Below.refl _ _) q))
                clear hw3
                go_wp2_with fail
                go_roundw
                case rel => exact ⟨k + 1, (putA Ac name v), (putA Ad name v), pc2, pd2, by go_num, by omega, HT5.out, HW.out.1, HW.out.2.1, HWI2.out, by show Ac.hits ≤ _; omega, by show Ac.misses ≤ _; omega, by show Ad.hits ≤ _; omega, by show Ad.misses ≤ _; omega⟩
                case measure => simp [intOf]; omega
              · have hb0 : ((op : Int) == 0) = false := by rw [beq_eq_false_iff_ne]; omega
                by_cases h1 : op = 1
                · have hb1 : ((op : Int) == 1) = true := by rw [h1]; rfl
                  clear h0 h1
                  go_wp2_with fail
                  refine (get_any gc Ac pc name wr HT.out.c HSM.out (by omega) (by omega)).mono ?_
                  rintro e w5 ⟨rfl, hk5⟩
                  obtain ⟨pc2, ht5⟩ := HT.out.left hk5
                  have HT5 := Lib.hid ht5
                  clear hk5 ht5
                  obtain ⟨d0, d1, d2⟩ := HSW.out w5 HT5.out.bel
                  clear c0 c1 c2
                  go_wp2_with fail
                  refine (get_any gd Ad pd name w5 HT5.out.d HSM.out (by omega) (by omega)).mono ?_
                  rintro e w6 ⟨rfl, hk6⟩
                  obtain ⟨pd2, ht6⟩ := HT5.out.right hk6
                  have HT2 := Lib.hid ht6
                  have hwg := WI.get HW.out.2.2 HT.out.c.facts.1 HT.out.d.facts.1 (s := name)
                  have HWI2 : Hid (WI r (getA Ac name).L (getA Ad name).L) := hwg.1
                  have HLK := Lib.hid hwg.2
                  have hq1 : (getA Ac name).hits ≤ k + 1 ∧ (getA Ac name).misses ≤ k + 1 ∧ (getA Ad name).hits ≤ k + 1 ∧ (getA Ad name).misses ≤ k + 1 := by unfold getA; dsimp only; refine ⟨?_, ?_, ?_, ?_⟩ <;> split <;> omega
                  have HQ := Lib.hid hq1
                  clear hk6 ht6 HT5 HT hwg hq1 d0 d1 d2
                  cases hlc : lk Ac.L name with
                  | none =>
                    simp only [Option.getD_none, Option.isSome_none]
                    go_wp2_with fail
                    refine (names_any gc (getA Ac name) pc2 w6 HT2.out.c).mono ?_
                    rintro e wn1 ⟨An1, cn1, rfl, hn1o, hn1b⟩
                    generalize hnl1 : (List.map (fun x : Ent => x.1) (getA Ac name).L).length = nl1 at *
                    have HNL1 := Lib.hid hnl1
                    clear hnl1
                    have HN1 := Lib.hid (And.intro hn1o hn1b)
                    have HT3 := Lib.hid (HT2.out.below hn1b)
                    clear hn1o hn1b
                    go_wp2_with fail
                    refine (names_any gd (getA Ad name) pd2 wn1 HT3.out.d).mono ?_
                    rintro e wn2 ⟨An2, cn2, rfl, hn2o, hn2b⟩
                    generalize hnl2 : (List.map (fun x : Ent => x.1) (getA Ad name).L).length = nl2 at *
                    have HNL2 := Lib.hid hnl2
                    clear hnl2
                    have HT4 := Lib.hid (HT3.out.below hn2b)
                    have HAM := Lib.hid (among_any An1 An2 cn1 cn2 _ _ _ _ wn2 (own_rdT (own_below HN1.out.1 hn2b) HNL1.out.symm) (own_rdT hn2o HNL2.out.symm) HNL1.out.symm HNL2.out.symm (by have := HT4.out.c.facts; have h := HNL1.out; rw [List.length_map] at h; omega) (by have := HT4.out.d.facts; have h := HNL2.out; rw [List.length_map] at h; omega))
                    clear hn2o hn2b
                    go_wp2_with fail
                    refine HAM.out.mono ?_
                    rintro e wn3 ⟨rfl, q, hw3⟩
                    rw [hw3, amg_sub (HWI2.out.1.map _)]
                    have HT5 := Lib.hid (HT4.out.below (below_drewN (Below.refl _ _) q))
                    clear hw3
                    go_wp2_with fail
                    go_roundw
                    case rel => exact ⟨k + 1, (getA Ac name), (getA Ad name), pc2, pd2, by go_num, by omega, HT5.out, HW.out.1, HW.out.2.1, HWI2.out, HQ.out.1, HQ.out.2.1, HQ.out.2.2.1, HQ.out.2.2.2⟩
                    case measure => simp [intOf]; omega
                  | some u =>
                    have hld := HLK.out u hlc
                    rw [hld]
                    simp only [Option.getD_some, Option.isSome_some]
                    go_wp2_with fail
                    refine (names_any gc (getA Ac name) pc2 w6 HT2.out.c).mono ?_
                    rintro e wn1 ⟨An1, cn1, rfl, hn1o, hn1b⟩
                    generalize hnl1 : (List.map (fun x : Ent => x.1) (getA Ac name).L).length = nl1 at *
                    have HNL1 := Lib.hid hnl1
                    clear hnl1
                    have HN1 := Lib.hid (And.intro hn1o hn1b)
                    have HT3 := Lib.hid (HT2.out.below hn1b)
                    clear hn1o hn1b
                    go_wp2_with fail
                    refine (names_any gd (getA Ad name) pd2 wn1 HT3.out.d).mono ?_
                    rintro e wn2 ⟨An2, cn2, rfl, hn2o, hn2b⟩
                    generalize hnl2 : (List.map (fun x : Ent => x.1) (getA Ad name).L).length = nl2 at *
                    have HNL2 := Lib.hid hnl2
                    clear hnl2
                    have HT4 := Lib.hid (HT3.out.below hn2b)
                    have HAM := Lib.hid (among_any An1 An2 cn1 cn2 _ _ _ _ wn2 (own_rdT (own_below HN1.out.1 hn2b) HNL1.out.symm) (own_rdT hn2o HNL2.out.symm) HNL1.out.symm HNL2.out.symm (by have := HT4.out.c.facts; have h := HNL1.out; rw [List.length_map] at h; omega) (by have := HT4.out.d.facts; have h := HNL2.out; rw [List.length_map] at h; omega))
                    clear hn2o hn2b
                    go_wp2_with fail
                    refine HAM.out.mono ?_
                    rintro e wn3 ⟨rfl, q, hw3⟩
                    rw [hw3, amg_sub (HWI2.out.1.map _)]
                    have HT5 := Lib.hid (HT4.out.below (below_drewN (Below.refl _ _) q))
                    clear hw3
                    go_wp2_with fail
                    go_roundw
                    case rel => exact ⟨k + 1, (getA Ac name), (getA Ad name), pc2, pd2, by go_num, by omega, HT5.out, HW.out.1, HW.out.2.1, HWI2.out, HQ.out.1, HQ.out.2.1, HQ.out.2.2.1, HQ.out.2.2.2⟩
                    case measure => simp [intOf]; omega
                · have hb1 : ((op : Int) == 1) = false := by rw [beq_eq_false_iff_ne]; omega
                  obtain ⟨pc2, rfl⟩ : ∃ p, p = pc := ⟨_, rfl⟩
                  obtain ⟨pd2, rfl⟩ : ∃ p, p = pd := ⟨_, rfl⟩
                  have HT2 := Lib.hid HT.out
                  clear h0 h1
                  go_wp2_with fail
                  refine (names_any gc Ac pc2 wr HT2.out.c).mono ?_
                  rintro e wn1 ⟨An1, cn1, rfl, hn1o, hn1b⟩
                  generalize hnl1 : (List.map (fun x : Ent => x.1) Ac.L).length = nl1 at *
                  have HNL1 := Lib.hid hnl1
                  clear hnl1
                  have HN1 := Lib.hid (And.intro hn1o hn1b)
                  have HT3 := Lib.hid (HT2.out.below hn1b)
                  clear hn1o hn1b
                  go_wp2_with fail
                  refine (names_any gd Ad pd2 wn1 HT3.out.d).mono ?_
                  rintro e wn2 ⟨An2, cn2, rfl, hn2o, hn2b⟩
                  generalize hnl2 : (List.map (fun x : Ent => x.1) Ad.L).length = nl2 at *
                  have HNL2 := Lib.hid hnl2
                  clear hnl2
                  have HT4 := Lib.hid (HT3.out.below hn2b)
                  have HAM := Lib.hid (among_any An1 An2 cn1 cn2 _ _ _ _ wn2 (own_rdT (own_below HN1.out.1 hn2b) HNL1.out.symm) (own_rdT hn2o HNL2.out.symm) HNL1.out.symm HNL2.out.symm (by have := HT4.out.c.facts; have h := HNL1.out; rw [List.length_map] at h; omega) (by have := HT4.out.d.facts; have h := HNL2.out; rw [List.length_map] at h; omega))
                  clear hn2o hn2b
                  go_wp2_with fail
                  refine HAM.out.mono ?_
                  rintro e wn3 ⟨rfl, q, hw3⟩
                  rw [hw3, amg_sub (HW.out.2.2.1.map _)]
                  have HT5 := Lib.hid (HT4.out.below (below_drewN (Below.refl _ _) q))
                  clear hw3
                  go_wp2_with fail
                  go_roundw
                  case rel => exact ⟨k + 1, Ac, Ad, pc2, pd2, by go_num, by omega, HT5.out, HW.out.1, HW.out.2.1, HW.out.2.2, by omega, by omega, by omega, by omega⟩
                  case measure => simp [intOf]; omega
            · go_wp2_with fail
              go_ret
              exact ⟨rfl, HT.out.bel⟩
end Go.Proofs.Ytnipmhidiiondaa
