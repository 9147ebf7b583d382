/- Contract of the net's kept. -/
import Derived.Test.YtjodglepaeomiaaNlo
namespace Go.Proofs.Ytjodglepaeomiaa
open Go.RowKit

/-- What the servers tell, in the net's memory. -/
theorem NetM.tells {w : World} {B gN : Nat} {X : Nat → Prop} {ps : List (Nat × Sv)} {way : List Mx} {Z : Seen} {v : Nv} (h : NetM w B gN X ps way Z v) {i g : Nat} {S : Sv} (hi : ps[i]? = some (g, S)) (hg : S.Good) :
    Calls Try.prog 32 #[.pointer (some ⟨g, 0, none⟩)] w (fun e w' => e = .returned (.int .i64 S.term) ∧ w' = w) ∧ Calls Try.prog 16 #[.pointer (some ⟨g, 0, none⟩)] w (fun e w' => e = .returned (.int .u8 (S.role : Nat)) ∧ w' = w) ∧
    Calls Try.prog 13 #[.pointer (some ⟨g, 0, none⟩)] w (fun e w' => e = .returned (.int .i64 (S.commit : Nat)) ∧ w' = w) ∧ Calls Try.prog 23 #[.pointer (some ⟨g, 0, none⟩)] w (LogPost w S.log) := by
  obtain ⟨A, c, hm⟩ := h.srv.get hi
  have hn : 0 < S.n := by have := hg.id; omega
  exact ⟨Term_any w g S.n S.term hm.c1 hn hm.c2, Role_any w g S.n (S.role : Nat) hm.c1 hn hm.c5, Commit_any w g S.n (S.commit : Nat) hm.c1 hn hm.c7, log_of _ S.term S.vote S.log w (saved_any S g A c w hm hn hg.len)⟩
theorem own_cells {w : World} {base n c : Nat} {A : Option Addr} {L : List Ent} (h : w.ownsRow base 39 2 (.slice A n c) n (rowOf ecell L)) {k : Nat} {x : Ent} (hk : L[k]? = some x) (hn : n = L.length) :
    ∃ g, A = some ⟨g, 0, none⟩ ∧ w.cell? ⟨g, k * 2, none⟩ = some (.int .i64 x.term) ∧ w.cell? ⟨g, k * 2 + 1, none⟩ = some (.string x.data) := by
  have hlt := (List.getElem?_eq_some_iff.1 hk).1
  obtain ⟨g, cap, hv, _, _⟩ := h.form (by omega)
  have hA : A = some ⟨g, 0, none⟩ := by injection hv
  have key : ∀ j u, (ecell x)[j]? = some u → w.cell? ⟨g, k * 2 + j, none⟩ = some u := fun j u hj => by
    have h5 := h.cells (g := g) (by rw [hA]; rfl) (k * 2 + j) u (rowOf_get ecell_len L k x j u hk hj)
    rw [addr_add, Nat.zero_add] at h5
    exact h5
  exact ⟨g, hA, key 0 _ rfl, key 1 _ rfl⟩
set_option maxRecDepth 100000 in
set_option maxHeartbeats 8000000 in
theorem kept_any {w : World} {B gN n d : Nat} {X : Nat → Prop} {ps : List (Nat × Sv)} {way : List Mx} {Z : Seen} {v : Nv} (h : Up w B gN n d X ps way Z v) (hsl : Z.sure.length ≤ 90000) :
    Calls Try.prog 54 #[.pointer (some ⟨gN, 0, none⟩)] w fun e w' => e = .returned (.bool true) ∧ Below w.heap.size w w' := by
  have HA := Lib.hid h
  have hpl := h.n
  have hn7 := h.s.n7
  obtain ⟨L, hL⟩ : ∃ L, L = Z.sure.length := ⟨_, rfl⟩
  have HL := Lib.hid hL
  rw [← hL] at hsl
  clear h hL
  go_enter Try.func54, Try.ntmps54
  go_wp2_with fail
  go_loopw [3] (fun s3 wr => ∃ i : Nat, s3 = .int .i64 (i : Nat) ∧ i ≤ n ∧ Below w.heap.size w wr) (fun s3 _ => n - (intOf s3).toNat)
  case atStart => exact ⟨0, rfl, by omega, Below.refl _ _⟩
  case round =>
    obtain ⟨i, rfl, hi, hb⟩ := hrel
    have HB := Lib.hid hb
    have HN := Lib.hid (HA.out.m.below hb)
    have c0 := HN.out.c0
    rw [hpl] at c0
    clear hb
    by_cases hlt : i < n
    · have di : decide ((i : Int) < (n : Int)) = true := decide_eq_true (by omega)
      have i0 : (0 : Int) ≤ (i : Int) := by omega
      have i1 : (i : Int) < (n : Int) := by omega
      obtain ⟨p, hp⟩ : ∃ p, ps[i]? = some p := ⟨_, List.getElem?_eq_getElem (by omega)⟩
      obtain ⟨g, S⟩ := p
      have hg : S.Good := (HA.out.s.good (sv_at hp)).1
      obtain ⟨gl, hAl, hcl⟩ := HN.out.srvAt hp
      rw [hAl] at c0
      have HT := Lib.hid (HN.out.tells hp hg)
      have HP := Lib.hid (And.intro hp hg)
      clear hp hAl hg
      go_wp2_with fail
      refine HT.out.2.1.mono ?_
      rintro e w1 ⟨rfl, hw1⟩
      subst hw1
      by_cases hr : S.role = 2
      · have dr : ((S.role : Int) != 2) = false := by simp [hr]
        go_wp2_with fail
        refine HT.out.2.2.2.mono ?_
        rintro e w2 ⟨A2, c2, rfl, ho2, hb2⟩
        have H2 : Hid (Below w.heap.size w w2 ∧ w2.ownsRow w1.heap.size 39 2 (.slice A2 S.log.length c2) S.log.length (rowOf ecell S.log)) := Lib.hid ⟨HB.out.trans (hb2.mono HB.out.size), ho2⟩
        obtain ⟨l, hl⟩ : ∃ l, l = S.log.length := ⟨_, rfl⟩
        have HLL := Lib.hid hl
        rw [← hl] at H2 ⊢
        clear ho2 hb2 hl c0 hcl
        go_wp2_with fail
        go_loopw [6] (fun s6 wq => ∃ k : Nat, s6 = .int .i64 (k : Nat) ∧ k ≤ L ∧ Below w2.heap.size w2 wq) (fun s6 _ => L - (intOf s6).toNat)
        case atStart => exact ⟨0, rfl, by omega, Below.refl _ _⟩
        case round =>
          obtain ⟨k, rfl, hk, hbq⟩ := hrel
          have HBQ : Hid (Below w.heap.size w wr ∧ wr.ownsRow w1.heap.size 39 2 (.slice A2 l c2) l (rowOf ecell S.log)) := Lib.hid ⟨H2.out.1.trans (hbq.mono H2.out.1.size), own_below H2.out.2 hbq⟩
          have HBR := Lib.hid hbq
          have HN2 := Lib.hid (HA.out.m.below HBQ.out.1)
          have e2 := HN2.out.c2
          rw [← HL.out] at e2
          clear hbq
          by_cases hlk : k < L
          · have dk : decide ((k : Int) < (L : Int)) = true := decide_eq_true (by omega)
            have k0 : (0 : Int) ≤ (k : Int) := by omega
            have k1 : (k : Int) < (L : Int) := by omega
            obtain ⟨y, hy⟩ : ∃ y, Z.sure[k]? = some y := ⟨_, List.getElem?_eq_getElem (by have := HL.out; omega)⟩
            obtain ⟨gs, hAs, hcs⟩ := HN2.out.sureAt hy
            obtain ⟨⟨xt, xd⟩, yt⟩ := y
            have s0 : wr.cell? ⟨gs, k * 3, none⟩ = some (.int .i64 xt) := hcs 0 _ rfl
            have s1 : wr.cell? ⟨gs, k * 3 + 1, none⟩ = some (.string xd) := hcs 1 _ rfl
            have s2 : wr.cell? ⟨gs, k * 3 + 2, none⟩ = some (.int .i64 yt) := hcs 2 _ rfl
            rw [hAs] at e2
            have HT2 := Lib.hid (fun N => ((HN2.out.drewN N).tells HP.out.1 HP.out.2).1)
            by_cases ht : yt < S.term
            · obtain ⟨hkl, hlog⟩ := HA.out.s.keptAt (sv_at HP.out.1) hr hy ht
              rw [← HLL.out] at hkl
              obtain ⟨ga, hA2, a0, a1⟩ := own_cells HBQ.out.2 hlog HLL.out
              subst hA2
              have dt : decide (yt < S.term) = true := decide_eq_true ht
              have dl : decide ((k : Int) ≥ (l : Int)) = false := decide_eq_false (by omega)
              have k2 : (k : Int) < (l : Int) := by omega
              clear hcs hAs hy hlog
              go_wp2_with fail
              go_quiet (first | refine Calls.quiet_of_same (HT2.out _))
              go_wp2_with fail
              go_roundw
              case rel => exact ⟨k + 1, by go_num, by omega, below_drewN HBR.out _⟩
              case measure => simp [intOf]; omega
            · have dt : decide (yt < S.term) = false := decide_eq_false ht
              clear hcs hAs hy
              go_wp2_with fail
              go_quiet (first | refine Calls.quiet_of_same (HT2.out _))
              go_wp2_with fail
              go_roundw
              case rel => exact ⟨k + 1, by go_num, by omega, below_drewN HBR.out _⟩
              case measure => simp [intOf]; omega
          · have dk : decide ((k : Int) < (L : Int)) = false := decide_eq_false (by omega)
            go_wp2_with fail
            go_roundw
            case rel => exact ⟨i + 1, by go_num, by omega, HBQ.out.1⟩
            case measure => simp [intOf]; omega
      · have dr : ((S.role : Int) != 2) = true := by simp; omega
        go_wp2_with fail
        go_roundw
        case rel => exact ⟨i + 1, by go_num, by omega, HB.out⟩
        case measure => simp [intOf]; omega
    · have di : decide ((i : Int) < (n : Int)) = false := decide_eq_false (by omega)
      go_wp2_with fail
      go_ret
      exact ⟨ret_bool (by simp), HB.out⟩
end Go.Proofs.Ytjodglepaeomiaa
