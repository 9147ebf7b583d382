/- Contract of the law's played. -/
import Derived.Test.YtjodglepaeomiaaNbe
namespace Go.Proofs.Ytjodglepaeomiaa
open Go.RowKit

theorem longB_not {l : List Dd} (h : longB l = false) : l.length ≤ 150 ∧ ∀ (k : Nat) (x : Dd), l[k]? = some x → x.data.size ≤ 50 := by
  unfold longB at h
  rw [Bool.or_eq_false_iff] at h
  have h1 : l.length ≤ 150 := by have := of_decide_eq_false h.2; omega
  refine ⟨h1, fun k x hx => ?_⟩
  have h2 := h.1
  rw [List.take_of_length_le h1, List.any_eq_false] at h2
  have h3 := h2 x (List.mem_of_getElem? hx)
  have : ¬ 50 < x.data.size := fun h4 => h3 (decide_eq_true h4)
  omega
/-- What played leaves behind k deeds. -/
def Played (w : World) (gN n k : Nat) (w' : World) : Prop :=
  ∃ X ps way Z v, Up w' gN gN n k X ps way Z v ∧ way.length ≤ 2000 ∧ Z.sure.length ≤ k ∧ Z.leads.length ≤ 7 * k ∧ Z.bud = 5000 ∧ Chg (fun b => gN ≤ b) w w'
set_option maxRecDepth 100000 in
set_option maxHeartbeats 8000000 in
theorem played_any {w : World} {n : Nat} (hn1 : 1 ≤ n) (hn7 : n ≤ 7) (A : Option Addr) (c : Nat) (l : List Dd) (hrd : RdD w A l) (hok : ∀ x ∈ l, DdOk x) (hlong : longB l = false) :
    Calls Try.prog 18 #[.int .i64 (n : Nat), .slice A l.length c] w fun e w' => e = .returned (.tuple #[.pointer (some ⟨w.heap.size, 0, none⟩), .bool true]) ∧ Played w w.heap.size n l.length w' := by
  have HL := Lib.hid (longB_not hlong)
  have HH := Lib.hid (And.intro hrd hok)
  have HBG := Lib.hid (begin_any (w := w) hn1 hn7)
  obtain ⟨q, hq⟩ : ∃ q, q = l.length := ⟨_, rfl⟩
  have HQ := Lib.hid hq
  rw [← hq]
  have hq150 : q ≤ 150 := by have := HL.out.1; omega
  obtain ⟨gN, hgN⟩ : ∃ z, z = w.heap.size := ⟨_, rfl⟩
  have HG := Lib.hid hgN
  rw [← hgN] at HBG ⊢
  clear hrd hok hlong hq hgN
  go_enter Try.func18, Try.ntmps18
  go_wp2_with fail
  refine HBG.out.mono ?_
  rintro e w1 ⟨rfl, X0, ps0, v0, hU0, hc0⟩
  rw [← HG.out] at hU0 hc0
  have H1 : Hid (Played w gN n 0 w1) := Lib.hid ⟨X0, ps0, [], seen0, v0, hU0, by simp, by simp [seen0], by simp [seen0], rfl, hc0⟩
  clear hU0 hc0 HBG
  go_wp2_with fail
  go_loopw [8] (fun s8 wr => ∃ k : Nat, s8 = .int .i64 (k : Nat) ∧ k ≤ q ∧ Played w gN n k wr) (fun s8 _ => q - (intOf s8).toNat)
  case atStart => exact ⟨0, rfl, by omega, H1.out⟩
  case round =>
    clear H1
    obtain ⟨k, rfl, hk, X, ps, way, Z, v, hU, hlen, hsu, hle, hbu, hch⟩ := hrel
    by_cases hlt : k < q
    · have d0 : decide ((k : Int) < (q : Int)) = true := decide_eq_true (by omega)
      have k0 : (0 : Int) ≤ (k : Int) := by omega
      have k1 : (k : Int) < (q : Int) := by omega
      obtain ⟨x, hx⟩ : ∃ x, l[k]? = some x := ⟨_, List.getElem?_eq_getElem (by have := HQ.out; omega)⟩
      obtain ⟨b, off, hA, hb, hcell⟩ := deeds_at HH.out.1 hx
      have hds := HL.out.2 k x hx
      have hdd := (HH.out.2 x (List.mem_of_getElem? hx)).d
      have HZ := Lib.hid (And.intro hsu (And.intro hle hbu))
      subst hA
      obtain ⟨y, hy⟩ : ∃ y, y = way.length := ⟨_, rfl⟩
      have c1 := hU.m.c1
      rw [← hy] at c1
      by_cases h2 : 200 < y
      · have dw : decide ((y : Int) > 200) = true := decide_eq_true (by omega)
        obtain ⟨hc1, hc2, hN2, hcx⟩ := hU.m.cut (k := 200) (by omega)
        have i2 : (200 : Int) ≤ (v.cw : Int) := by omega
        have f1 : wr.frozen? ⟨gN, 1, none⟩ = false := hU.m.top.frozen 1
        have H2 : Hid (Up (wr.setCell ⟨gN, 1, none⟩ (.slice v.Aw 200 v.cw)) gN gN n k X ps (way.take 200) Z v ∧ (way.take 200).length ≤ 200 ∧ Chg (fun b => gN ≤ b) w (wr.setCell ⟨gN, 1, none⟩ (.slice v.Aw 200 v.cw))) := Lib.hid ⟨⟨hN2, hU.s.less (fun m hm => by
            obtain ⟨z, hz, rfl⟩ := List.mem_map.1 hm
            exact List.mem_map_of_mem (List.mem_of_mem_take hz)), fun z hz => hU.o z (List.mem_of_mem_take hz)⟩, by rw [List.length_take]; omega, by
            exact hch.trans (hcx.mono (fun b hb => (hU.m.Xw b hb).1))⟩
        clear hU hlen hsu hle hbu hch hc1 hc2 hN2 hcx hy
        generalize way.take 200 = way2 at *
        go_upto_region 9 with fail
        generalize wr.setCell ⟨gN, 1, none⟩ (.slice v.Aw 200 v.cw) = w2 at *
        clear c1 f1 dw i2
        have HRG : Hid (w2.rangeAt b (off + k * 4) (dcell x)) := Lib.hid (fun jj u hu => (RdL.below HH.out.1 (Chg.below (Below.refl _ _) (show Chg (fun bb => w.heap.size ≤ bb) w w2 by rw [← HG.out]; exact H2.out.2.2) (Nat.le_refl _) (fun _ h => h))).elim (fun h => by rw [h] at hx; simp at hx) (fun ⟨b', off', e1, e2, e3⟩ => by
          injection e1 with e1
          injection e1 with e1 e4
          subst e1
          subst e4
          exact e3 k x hx jj u hu))
        obtain ⟨dd, who, at_, data⟩ := x
        dsimp only [dcell] at HRG hds hdd
        have HDO := Lib.hid (ndo_any (Z0 := Z) H2.out.1 ⟨rfl, rfl, rfl⟩ hn1 (by omega) H2.out.2.1 (who := who) (at_ := at_) (data := data) hdd (by omega))
        clear hx hds hdd hcell
        go_wp2_with (first | (refine wpList_load_mid rfl 89 (.tmp 40) rfl b (off + k * 4) rfl [.int .u8 (dd : Nat), .int .i64 who, .int .i64 at_, .string data] (.struct _) HRG.out Try.underlying89 rfl (by kernel_rfl) ?_) | fail)
        refine HDO.out.mono ?_
        rintro e w3 ⟨rfl, X3, ps3, way3, Z3, v3, hU3, hl3, hs3, hc3⟩
        have H3 := Lib.hid (And.intro hU3 (And.intro hl3 (And.intro hs3 hc3)))
        have HLK := Lib.hid (look_any hU3 (by rw [hs3.1]; have := HZ.out.1; omega) (by omega) (by rw [hs3.2.1]; have := HZ.out.2.1; omega) (hs3.2.2.trans HZ.out.2.2))
        clear hU3 hl3 hs3 hc3
        go_wp2_with fail
        refine HLK.out.mono ?_
        rintro e w4 ⟨rfl, X4, Z4, v4, hU4, hs4, hl4, hc4⟩
        have H4 := Lib.hid (And.intro hU4 (And.intro hs4 (And.intro hl4 hc4)))
        clear hU4 hs4 hl4 hc4
        go_wp2_with fail
        go_roundw
        case rel => exact ⟨k + 1, by go_num, by omega, X4, ps3, way3, Z4, v4, H4.out.1, H3.out.2.1, H4.out.2.1, by have := H4.out.2.2.1.1; have := H3.out.2.2.1.2.1; have := HZ.out.2.1; omega, H4.out.2.2.1.2, (H2.out.2.2.trans H3.out.2.2.2).trans H4.out.2.2.2⟩
        case measure => simp [intOf]; omega
      · have dw : decide ((y : Int) > 200) = false := decide_eq_false (by omega)
        have H2 : Hid (Up wr gN gN n k X ps way Z v ∧ way.length ≤ 200 ∧ Chg (fun b => gN ≤ b) w wr) := Lib.hid ⟨hU, by omega, hch⟩
        clear hU hlen hsu hle hbu hch hy
        go_upto_region 9 with fail
        generalize wr = w2 at *
        clear c1 dw
        have HRG : Hid (w2.rangeAt b (off + k * 4) (dcell x)) := Lib.hid (fun jj u hu => (RdL.below HH.out.1 (Chg.below (Below.refl _ _) (show Chg (fun bb => w.heap.size ≤ bb) w w2 by rw [← HG.out]; exact H2.out.2.2) (Nat.le_refl _) (fun _ h => h))).elim (fun h => by rw [h] at hx; simp at hx) (fun ⟨b', off', e1, e2, e3⟩ => by
          injection e1 with e1
          injection e1 with e1 e4
          subst e1
          subst e4
          exact e3 k x hx jj u hu))
        obtain ⟨dd, who, at_, data⟩ := x
        dsimp only [dcell] at HRG hds hdd
        have HDO := Lib.hid (ndo_any (Z0 := Z) H2.out.1 ⟨rfl, rfl, rfl⟩ hn1 (by omega) H2.out.2.1 (who := who) (at_ := at_) (data := data) hdd (by omega))
        clear hx hds hdd hcell
        go_wp2_with (first | (refine wpList_load_mid rfl 89 (.tmp 40) rfl b (off + k * 4) rfl [.int .u8 (dd : Nat), .int .i64 who, .int .i64 at_, .string data] (.struct _) HRG.out Try.underlying89 rfl (by kernel_rfl) ?_) | fail)
        refine HDO.out.mono ?_
        rintro e w3 ⟨rfl, X3, ps3, way3, Z3, v3, hU3, hl3, hs3, hc3⟩
        have H3 := Lib.hid (And.intro hU3 (And.intro hl3 (And.intro hs3 hc3)))
        have HLK := Lib.hid (look_any hU3 (by rw [hs3.1]; have := HZ.out.1; omega) (by omega) (by rw [hs3.2.1]; have := HZ.out.2.1; omega) (hs3.2.2.trans HZ.out.2.2))
        clear hU3 hl3 hs3 hc3
        go_wp2_with fail
        refine HLK.out.mono ?_
        rintro e w4 ⟨rfl, X4, Z4, v4, hU4, hs4, hl4, hc4⟩
        have H4 := Lib.hid (And.intro hU4 (And.intro hs4 (And.intro hl4 hc4)))
        clear hU4 hs4 hl4 hc4
        go_wp2_with fail
        go_roundw
        case rel => exact ⟨k + 1, by go_num, by omega, X4, ps3, way3, Z4, v4, H4.out.1, H3.out.2.1, H4.out.2.1, by have := H4.out.2.2.1.1; have := H3.out.2.2.1.2.1; have := HZ.out.2.1; omega, H4.out.2.2.1.2, (H2.out.2.2.trans H3.out.2.2.2).trans H4.out.2.2.2⟩
        case measure => simp [intOf]; omega
    · have d0 : decide ((k : Int) < (q : Int)) = false := decide_eq_false (by omega)
      have hkq : k = q := by omega
      subst hkq
      go_wp2_with fail
      go_ret2
      exact ⟨rfl, X, ps, way, Z, v, hU, hlen, hsu, hle, hbu, hch⟩
end Go.Proofs.Ytjodglepaeomiaa
