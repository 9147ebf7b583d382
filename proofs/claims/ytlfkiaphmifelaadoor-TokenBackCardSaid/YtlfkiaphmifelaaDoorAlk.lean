/- Contract of the law's Alike. -/
import Derived.Deep.QuietTactic
import Derived.BigQuiet
import Derived.Outline
import Derived.Test.YtlfkiaphmifelaaDoorAlp
namespace Go.Proofs.YtlfkiaphmifelaaDoor
open Go.RowKit

/-- A token as memory bears it. -/
structure Gk where
  kind : Int
  text : ByteArray
  int : Int
  place : Int
deriving DecidableEq
def At4 (w : World) (b o : Nat) (g : Gk) : Prop := w.cell? ⟨b, o, none⟩ = some (.int .u8 g.kind) ∧ w.cell? ⟨b, o + 1, none⟩ = some (.string g.text) ∧ w.cell? ⟨b, o + 2, none⟩ = some (.int .i64 g.int) ∧ w.cell? ⟨b, o + 3, none⟩ = some (.int .i64 g.place)
/-- A slice's address from which tokens read. -/
def Rd4 (w : World) (A : Option Addr) (l : List Gk) : Prop := l = [] ∨ ∃ b off, A = some ⟨b, off, none⟩ ∧ ∀ k g, l[k]? = some g → At4 w b (off + k * 4) g

theorem bytes_of_list {a b : ByteArray} (h : a.toList = b.toList) : a = b := by
  rw [ByteArray.toList_eq, ByteArray.toList_eq] at h
  obtain ⟨⟨x⟩⟩ := a
  obtain ⟨⟨y⟩⟩ := b
  have : x = y := h
  rw [this]
theorem drewN_drewN (w : World) (a b : Nat) : (w.drewN a).drewN b = w.drewN (a + b) := by
  rw [World.drewN_drewN]

set_option maxHeartbeats 2000000 in
theorem alike_any (A B : Option Addr) (ca cb n : Nat) (la lb : List Gk) (w : World) (ha : Rd4 w A la) (hb : Rd4 w B lb) (hl : la.length = n) (hl2 : lb.length = n) (hn : n ≤ 1000000) :
    Calls Tryd.prog 8 #[.slice A n ca, .slice B n cb] w fun e w' => e = .returned (.bool (decide (la = lb))) ∧ ∃ n, w' = w.drewN n := by
  have HA := Lib.hid ha
  have HB := Lib.hid hb
  have HL := Lib.hid hl
  have HL2 := Lib.hid hl2
  clear ha hb hl hl2
  go_enter Tryd.func8, Tryd.ntmps8
  go_wp2_with fail
  go_loopw [5] (fun s5 wr => ∃ k : Nat, s5 = .int .i64 k ∧ k ≤ n ∧ la.take k = lb.take k ∧ ∃ q, wr = w.drewN q) (fun s5 _ => n - (intOf s5).toNat)
  case atStart => exact ⟨0, rfl, by omega, rfl, 0, rfl⟩
  case round =>
    obtain ⟨k, rfl, hk, hpre, hw⟩ := hrel
    have HP := Lib.hid (And.intro hpre hw)
    clear hpre hw
    by_cases hlt : k < n
    · have hka : k < la.length := by rw [HL.out]; exact hlt
      have hkb : k < lb.length := by rw [HL2.out]; exact hlt
      obtain ⟨ga, hga⟩ : ∃ g, la[k]? = some g := ⟨_, List.getElem?_eq_getElem hka⟩
      obtain ⟨gb, hgb⟩ : ∃ g, lb[k]? = some g := ⟨_, List.getElem?_eq_getElem hkb⟩
      obtain ⟨b1, o1, rfl, hc1⟩ : ∃ b off, A = some ⟨b, off, none⟩ ∧ ∀ k g, la[k]? = some g → At4 w b (off + k * 4) g := HA.out.resolve_left (fun h => by rw [h] at hka; exact absurd hka (by simp))
      obtain ⟨b2, o2, rfl, hc2⟩ : ∃ b off, B = some ⟨b, off, none⟩ ∧ ∀ k g, lb[k]? = some g → At4 w b (off + k * 4) g := HB.out.resolve_left (fun h => by rw [h] at hkb; exact absurd hkb (by simp))
      obtain ⟨q, hq⟩ := HP.out.2
      have hat1 : At4 wr b1 (o1 + k * 4) ga := by rw [hq]; exact hc1 k ga hga
      have hat2 : At4 wr b2 (o2 + k * 4) gb := by rw [hq]; exact hc2 k gb hgb
      have HG := Lib.hid (And.intro hga (And.intro hgb hq))
      have hkn : (k : Int) < (n : Int) := by omega
      have hk0 : (0 : Int) ≤ (k : Int) := by omega
      clear hga hgb hq hc1 hc2 hka hkb
      obtain ⟨ka, ta, ia, pa⟩ := ga
      obtain ⟨kb, tb, ib, pb⟩ := gb
      obtain ⟨c0, c1, c2, c3⟩ := hat1
      obtain ⟨d0, d1, d2, d3⟩ := hat2
      dsimp only at c0 c1 c2 c3 d0 d1 d2 d3
      have HDIFF : Hid ((⟨ka, ta, ia, pa⟩ : Gk) ≠ ⟨kb, tb, ib, pb⟩ → decide (la = lb) = false) := fun h => decide_eq_false (fun he => h (by have h1 := HG.out.1; rw [he, HG.out.2.1] at h1; injection h1 with h1; exact h1.symm))
      have HSAME : Hid ((⟨ka, ta, ia, pa⟩ : Gk) = ⟨kb, tb, ib, pb⟩ → la.take (k + 1) = lb.take (k + 1)) := fun h => by
        rw [List.take_add_one, List.take_add_one, HG.out.1, HG.out.2.1, HP.out.1, h]
      cases e1 : (ka == kb)
      · have HNE : Hid (decide (la = lb) = false) := HDIFF.out (fun h => by injection h with h1 h2 h3 h4; rw [h1] at e1; simp at e1)
        go_wp2_with fail
        go_quiet (fail)
        go_wp2_with fail
        go_ret
        obtain ⟨q, hq⟩ := HP.out.2
        exact ⟨by rw [HNE.out]; rfl, q + nq, by rw [hq]; exact drewN_drewN w q nq⟩
      · cases e2 : (ta.toList == tb.toList)
        · have HNE : Hid (decide (la = lb) = false) := HDIFF.out (fun h => by injection h with h1 h2 h3 h4; rw [h2] at e2; simp at e2)
          go_wp2_with fail
          go_quiet (fail)
          go_wp2_with fail
          go_ret
          obtain ⟨q, hq⟩ := HP.out.2
          exact ⟨by rw [HNE.out]; rfl, q + nq, by rw [hq]; exact drewN_drewN w q nq⟩
        · cases e3 : (ia == ib)
          · have HNE : Hid (decide (la = lb) = false) := HDIFF.out (fun h => by injection h with h1 h2 h3 h4; rw [h3] at e3; simp at e3)
            go_wp2_with fail
            go_quiet (fail)
            go_wp2_with fail
            go_ret
            obtain ⟨q, hq⟩ := HP.out.2
            exact ⟨by rw [HNE.out]; rfl, q + nq, by rw [hq]; exact drewN_drewN w q nq⟩
          · cases e4 : (pa == pb)
            · have HNE : Hid (decide (la = lb) = false) := HDIFF.out (fun h => by injection h with h1 h2 h3 h4; rw [h4] at e4; simp at e4)
              go_wp2_with fail
              go_quiet (fail)
              go_wp2_with fail
              go_ret
              obtain ⟨q, hq⟩ := HP.out.2
              exact ⟨by rw [HNE.out]; rfl, q + nq, by rw [hq]; exact drewN_drewN w q nq⟩
            · have HEQ : Hid (la.take (k + 1) = lb.take (k + 1)) := HSAME.out (by rw [show ka = kb by simpa using e1, show ia = ib by simpa using e3, show pa = pb by simpa using e4, show ta = tb from bytes_of_list (by simpa using e2)])
              go_wp2_with fail
              go_quiet (fail)
              go_wp2_with fail
              go_roundw
              case rel =>
                obtain ⟨q, hq⟩ := HP.out.2
                exact ⟨k + 1, by go_num, by omega, HEQ.out, q + nq, by rw [hq]; exact drewN_drewN w q nq⟩
              case measure => simp [intOf]; omega
    · have HR : Hid (decide (la = lb) = true) := decide_eq_true (by have h := HP.out.1; rw [List.take_of_length_le (by rw [HL.out]; omega), List.take_of_length_le (by rw [HL2.out]; omega)] at h; exact h)
      go_wp2_with fail
      go_ret
      exact ⟨by rw [HR.out]; exact rfl, HP.out.2⟩
theorem alike_len (A B : Option Addr) (ca cb n m : Nat) (w : World) (h : n ≠ m) :
    Calls Tryd.prog 8 #[.slice A n ca, .slice B m cb] w fun e w' => e = .returned (.bool false) ∧ w' = w := by
  have hb : ((n : Int) != (m : Int)) = true := by rw [bne_iff_ne]; omega
  clear h
  go_enter Tryd.func8, Tryd.ntmps8
  go_wp2_with fail
  go_ret
  exact ⟨rfl, rfl⟩
end Go.Proofs.YtlfkiaphmifelaaDoor
