/- Contract of the net's match. -/
import Derived.Test.YtjodglepaeomiaaNke
namespace Go.Proofs.Ytjodglepaeomiaa
open Go.RowKit

set_option maxRecDepth 100000 in
set_option maxHeartbeats 8000000 in
theorem match_any {w : World} {B gN n d : Nat} {X : Nat → Prop} {ps : List (Nat × Sv)} {way : List Mx} {Z : Seen} {v : Nv} (h : Up w B gN n d X ps way Z v) :
    Calls Try.prog 55 #[.pointer (some ⟨gN, 0, none⟩)] w fun e w' => e = .returned (.bool true) ∧ Below w.heap.size w w' := by
  have HA := Lib.hid h
  have hpl := h.n
  have hn7 := h.s.n7
  clear h
  go_enter Try.func55, Try.ntmps55
  go_wp2_with fail
  go_loopw [3] (fun s3 wr => ∃ i : Nat, s3 = .int .i64 (i : Nat) ∧ i ≤ n + 1 ∧ Below w.heap.size w wr) (fun s3 _ => n + 1 - (intOf s3).toNat)
  case atStart => exact ⟨1, rfl, by omega, Below.refl _ _⟩
  case round =>
    obtain ⟨i, rfl, hi, hb⟩ := hrel
    have HB := Lib.hid hb
    have HN := Lib.hid (HA.out.m.below hb)
    have c0 := HN.out.c0
    rw [hpl] at c0
    clear hb
    by_cases hlt : i < n
    · have di : decide ((i : Int) < (n : Int)) = true := decide_eq_true (by omega)
      have i0 : (0 : Int) ≤ (i : Int) := by omega
      have i1 : (i : Int) < (n : Int) := by omega
      obtain ⟨p, hp⟩ : ∃ p, ps[i]? = some p := ⟨_, List.getElem?_eq_getElem (by omega)⟩
      obtain ⟨g, S⟩ := p
      have hg : S.Good := (HA.out.s.good (sv_at hp)).1
      obtain ⟨gl, hAl, hcl⟩ := HN.out.srvAt hp
      rw [hAl] at c0
      have HT := Lib.hid (HN.out.tells hp hg)
      have HP := Lib.hid (And.intro hp hg)
      have HV := Lib.hid hAl
      clear hp hAl hg
      go_wp2_with fail
      refine HT.out.2.2.2.mono ?_
      rintro e w2 ⟨A2, c2, rfl, ho2, hb2⟩
      have H2 : Hid (Below w.heap.size w w2 ∧ w2.ownsRow wr.heap.size 39 2 (.slice A2 S.log.length c2) S.log.length (rowOf ecell S.log)) := Lib.hid ⟨HB.out.trans (hb2.mono HB.out.size), ho2⟩
      obtain ⟨b2, hb2e⟩ : ∃ z, z = wr.heap.size := ⟨_, rfl⟩
      rw [← hb2e] at H2
      have hl9 : S.log.length ≤ 4096 := HP.out.2.len
      obtain ⟨l, hl⟩ : ∃ l, l = S.log.length := ⟨_, rfl⟩
      have HLL := Lib.hid hl
      rw [← hl] at H2 hl9 ⊢
      clear ho2 hb2 hl c0 hcl hb2e
      go_wp2_with fail
      go_loopw [5] (fun s5 wr => ∃ j : Nat, s5 = .int .i64 (j : Nat) ∧ j ≤ i ∧ Below w2.heap.size w2 wr) (fun s5 _ => i - (intOf s5).toNat)
      case atStart => exact ⟨0, rfl, by omega, Below.refl _ _⟩
      case round =>
        obtain ⟨j, rfl, hj, hbj⟩ := hrel
        have HB3 : Hid (Below w.heap.size w wr ∧ wr.ownsRow b2 39 2 (.slice A2 l c2) l (rowOf ecell S.log)) := Lib.hid ⟨H2.out.1.trans (hbj.mono H2.out.1.size), own_below H2.out.2 hbj⟩
        have HBJ := Lib.hid hbj
        have HN3 := Lib.hid (HA.out.m.below HB3.out.1)
        have c0 := HN3.out.c0
        rw [hpl, HV.out] at c0
        clear hbj
        by_cases hlj : j < i
        · have dj : decide ((j : Int) < (i : Int)) = true := decide_eq_true (by omega)
          have j0 : (0 : Int) ≤ (j : Int) := by omega
          have j1 : (j : Int) < (n : Int) := by omega
          obtain ⟨p, hp⟩ : ∃ p, ps[j]? = some p := ⟨_, List.getElem?_eq_getElem (by omega)⟩
          obtain ⟨g', S'⟩ := p
          have hg : S'.Good := (HA.out.s.good (sv_at hp)).1
          obtain ⟨gl', hAl, hcl⟩ := HN3.out.srvAt hp
          rw [HV.out] at hAl
          injection hAl with hAl
          injection hAl with hAl
          subst hAl
          have HT3 := Lib.hid (HN3.out.tells hp hg)
          have HP3 := Lib.hid (And.intro hp hg)
          clear hp hg
          go_wp2_with fail
          refine HT3.out.2.2.2.mono ?_
          rintro e w4 ⟨A4, c4, rfl, ho4, hb4⟩
          obtain ⟨b4, hb4e⟩ : ∃ z, z = wr.heap.size := ⟨_, rfl⟩
          have H4 : Hid (Below w2.heap.size w2 w4 ∧ w4.ownsRow b4 39 2 (.slice A4 S'.log.length c4) S'.log.length (rowOf ecell S'.log)) := by rw [hb4e]; exact Lib.hid ⟨HBJ.out.trans (hb4.mono HBJ.out.size), ho4⟩
          have hl9' : S'.log.length ≤ 4096 := HP3.out.2.len
          obtain ⟨l', hl'⟩ : ∃ l', l' = S'.log.length := ⟨_, rfl⟩
          have HLL' := Lib.hid hl'
          rw [← hl'] at H4 hl9' ⊢
          clear ho4 hb4 hl' c0 hcl hb4e
          go_wp2_with fail
          go_loopw [7, 8] (fun s7 s8 wr => ∃ sm k : Nat, s7 = .int .i64 (sm : Nat) ∧ s8 = .int .i64 (k : Nat) ∧ k ≤ l ∧ k ≤ l' ∧ (sm = k ∨ (sm < k ∧ S.log[sm]? ≠ S'.log[sm]?)) ∧ Below w4.heap.size w4 wr) (fun _ s8 _ => l - (intOf s8).toNat)
          case atStart => exact ⟨0, 0, rfl, rfl, by omega, by omega, .inl rfl, Below.refl _ _⟩
          case round =>
            obtain ⟨sm, k, rfl, rfl, hk, hk', hsm, hbk⟩ := hrel
            have HBK := Lib.hid hbk
            have HO : Hid (wr.ownsRow b2 39 2 (.slice A2 l c2) l (rowOf ecell S.log) ∧ wr.ownsRow b4 39 2 (.slice A4 l' c4) l' (rowOf ecell S'.log)) := Lib.hid ⟨own_below (own_below H2.out.2 H4.out.1) hbk, own_below H4.out.2 hbk⟩
            clear hbk
            by_cases hkl : k < l
            · have dk : decide ((k : Int) < (l : Int)) = true := decide_eq_true (by omega)
              by_cases hkl' : k < l'
              · have dk' : decide ((k : Int) < (l' : Int)) = true := decide_eq_true (by omega)
                have k0 : (0 : Int) ≤ (k : Int) := by omega
                have k1 : (k : Int) < (l : Int) := by omega
                have k2 : (k : Int) < (l' : Int) := by omega
                obtain ⟨x, hx⟩ : ∃ x, S.log[k]? = some x := ⟨_, List.getElem?_eq_getElem (by have := HLL.out; omega)⟩
                obtain ⟨y, hy⟩ : ∃ y, S'.log[k]? = some y := ⟨_, List.getElem?_eq_getElem (by have := HLL'.out; omega)⟩
                obtain ⟨ga, hA2, a0, a1⟩ := own_cells HO.out.1 hx HLL.out
                obtain ⟨gb, hA4, b0, b1⟩ := own_cells HO.out.2 hy HLL'.out
                subst hA2
                subst hA4
                by_cases hxy : x.term = y.term
                · have hm := HA.out.s.matchAt (sv_at HP.out.1) (sv_at HP3.out.1) hx hy hxy
                  have hsk : sm = k := by
                    rcases hsm with h | ⟨h, h2⟩
                    · exact h
                    · exfalso
                      apply h2
                      have h3 := congrArg (fun z => z[sm]?) hm
                      simp only [List.getElem?_take, if_pos (show sm < k + 1 by omega)] at h3
                      exact h3
                  have hxy2 : x = y := by
                    have h3 := congrArg (fun z => z[k]?) hm
                    simp only [List.getElem?_take, if_pos (Nat.lt_succ_self k)] at h3
                    have h3 : S.log[k]? = S'.log[k]? := h3
                    rw [hx, hy] at h3
                    exact Option.some.inj h3
                  subst hxy2
                  subst hsk
                  clear hm hsm hx hy hxy
                  obtain ⟨xt, xd⟩ := x
                  dsimp only at a0 a1 b0 b1
                  go_wp2_with fail
                  go_quiet (fail)
                  go_wp2_with fail
                  go_quiet (fail)
                  go_wp2_with fail
                  go_roundw
                  case rel => exact ⟨sm + 1, sm + 1, by go_num, by go_num, by omega, by omega, .inl rfl, below_drewN HBK.out _⟩
                  case measure => simp [intOf]; omega
                · have dx : (x.term == y.term) = false := by simp [hxy]
                  have hne : S.log[k]? ≠ S'.log[k]? := by rw [hx, hy]; intro h; exact hxy (congrArg Ent.term (Option.some.inj h))
                  have HS : Hid (sm = k + 1 ∨ (sm < k + 1 ∧ S.log[sm]? ≠ S'.log[sm]?)) := Lib.hid (by
                    rcases hsm with h | ⟨h, h2⟩
                    · exact .inr ⟨by omega, by rw [h]; exact hne⟩
                    · exact .inr ⟨by omega, h2⟩)
                  clear hsm hx hy hne
                  obtain ⟨xt, xd⟩ := x
                  obtain ⟨yt, yd⟩ := y
                  dsimp only at a0 a1 b0 b1 dx hxy
                  go_wp2_with fail
                  go_quiet (fail)
                  go_wp2_with fail
                  go_quiet (fail)
                  go_wp2_with fail
                  go_quiet (fail)
                  go_wp2_with fail
                  go_roundw
                  case rel => exact ⟨sm, k + 1, by go_num, by go_num, by omega, by omega, HS.out, below_drewN HBK.out _⟩
                  case measure => simp [intOf]; omega
              · have dk' : decide ((k : Int) < (l' : Int)) = false := decide_eq_false (by omega)
                go_wp2_with fail
                go_roundw
                case rel => exact ⟨j + 1, by go_num, by omega, H4.out.1.trans (HBK.out.mono H4.out.1.size)⟩
                case measure => simp [intOf]; omega
            · have dk : decide ((k : Int) < (l : Int)) = false := decide_eq_false (by omega)
              go_wp2_with fail
              go_roundw
              case rel => exact ⟨j + 1, by go_num, by omega, H4.out.1.trans (HBK.out.mono H4.out.1.size)⟩
              case measure => simp [intOf]; omega
        · have dj : decide ((j : Int) < (i : Int)) = false := decide_eq_false (by omega)
          go_wp2_with fail
          go_roundw
          case rel => exact ⟨i + 1, by go_num, by omega, HB3.out.1⟩
          case measure => simp [intOf]; omega
    · have di : decide ((i : Int) < (n : Int)) = false := decide_eq_false (by omega)
      go_wp2_with fail
      go_ret
      exact ⟨ret_bool (by simp), HB.out⟩
end Go.Proofs.Ytjodglepaeomiaa
