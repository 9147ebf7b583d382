/- Contract of the net's one. -/
import Derived.Test.YtjodglepaeomiaaNgr
namespace Go.Proofs.Ytjodglepaeomiaa
open Go.RowKit

theorem nxinfo2 : (Try.prog.info? 2).map (fun i => (i.zero, i.size, i.bytes)) = some (some (.int .i64 0), 1, 8) := by kernel_rfl
theorem nxinfo3 : (Try.prog.info? 3).map (fun i => (i.zero, i.size, i.bytes)) = some (some (.int .i64 0), 1, 8) := by kernel_rfl
theorem nxunder51 : Try.prog.underlying 51 = some (.slice 2) := by kernel_rfl
theorem nxunder52 : Try.prog.underlying 52 = some (.slice 3) := by kernel_rfl
/-- What one leaves. -/
def OnePst (w : World) (B gN n d : Nat) (ps : List (Nat × Sv)) (way : List Mx) (Z : Seen) (w' : World) : Prop :=
  ∃ X' Z' v', Up w' B gN n d X' ps way Z' v' ∧ Z'.leads.length ≤ Z.leads.length + 1 ∧ Z'.sure = Z.sure ∧ (Z'.told = Z.told ∧ Z'.bud = Z.bud) ∧ Chg (fun b => B ≤ b) w w'
theorem Up.ll {w : World} {B gN n d : Nat} {X : Nat → Prop} {ps : List (Nat × Sv)} {way : List Mx} {Z : Seen} {v : Nv} (h : Up w B gN n d X ps way Z v) : Z.leads.length = Z.whose.length := by
  obtain ⟨G, _, hS⟩ := h.s.inv
  exact hS.ll
theorem reads_one {w : World} {g : Nat} {e : TypeId} {u : Value} {B : Nat} (h : Blk w g e #[u]) (hB : g < B) : Reads w B 1 (some ⟨g, 0, none⟩) 1 [u] :=
  ⟨rfl, fun _ => ⟨_, rfl, hB, fun j x hx => by rw [addr_add, Nat.zero_add, h.cell, ← hx]; exact (Array.getElem?_toList ..).symm⟩⟩
set_option maxRecDepth 100000 in
set_option maxHeartbeats 8000000 in
theorem none_any {w : World} {B gN n d : Nat} {X : Nat → Prop} {ps : List (Nat × Sv)} {way : List Mx} {Z : Seen} {v : Nv} (h : Up w B gN n d X ps way Z v) {i g : Nat} {S : Sv} (hi : ps[i]? = some (g, S)) (hr : S.role = 2) (hll : Z.leads.length ≤ 90000) :
    Calls Try.prog 53 #[.pointer (some ⟨gN, 0, none⟩), .int .i64 (i : Nat), .int .i64 S.term] w fun e w' => e = .returned (.bool true) ∧ OnePst w B gN n d ps way Z w' := by
  have HA := Lib.hid h
  have HI := Lib.hid (And.intro hi hr)
  obtain ⟨L, hL⟩ : ∃ L, L = Z.leads.length := ⟨_, rfl⟩
  have HL := Lib.hid hL
  have HLW := Lib.hid h.ll
  rw [← hL] at hll HLW
  clear h hi hr hL
  go_enter Try.func53, Try.ntmps53
  go_wp2_with fail
  go_loopw [7] (fun s7 wr => ∃ k : Nat, s7 = .int .i64 (k : Nat) ∧ k ≤ L ∧ Below w.heap.size w wr) (fun s7 _ => L - (intOf s7).toNat)
  case atStart => exact ⟨0, rfl, by omega, Below.refl _ _⟩
  case round =>
    obtain ⟨k, rfl, hk, hb⟩ := hrel
    have HB := Lib.hid hb
    have HN := Lib.hid (HA.out.m.below hb)
    have c10 := HN.out.c10
    have c11 := HN.out.c11
    rw [← HL.out] at c10
    rw [← HLW.out] at c11
    clear hb
    by_cases hlt : k < L
    · have dk : decide ((k : Int) < (L : Int)) = true := decide_eq_true (by omega)
      have k0 : (0 : Int) ≤ (k : Int) := by omega
      have k1 : (k : Int) < (L : Int) := by omega
      obtain ⟨t, ht⟩ : ∃ t, Z.leads[k]? = some t := ⟨_, List.getElem?_eq_getElem (by have := HL.out; omega)⟩
      obtain ⟨c, hc⟩ : ∃ c, Z.whose[k]? = some c := ⟨_, List.getElem?_eq_getElem (by have := HLW.out; omega)⟩
      obtain ⟨gd, hAd, hcd⟩ := HN.out.ldAt ht
      obtain ⟨gh, hAh, hch⟩ := HN.out.whAt hc
      rw [hAd] at c10
      rw [hAh] at c11
      by_cases hst : t = S.term
      · subst hst
        have hci := HA.out.s.leadAt (sv_at HI.out.1) HI.out.2 ht hc
        subst hci
        clear ht hc hAd hAh
        go_wp2_with fail
        go_ret
        exact ⟨ret_bool (by simp), X, Z, v, ⟨HN.out, HA.out.s, HA.out.o⟩, Nat.le_succ _, rfl, ⟨rfl, rfl⟩, .of_below HB.out⟩
      · have ds : (t == S.term) = false := by simp [hst]
        clear ht hc hAd hAh
        go_wp2_with fail
        go_roundw
        case rel => exact ⟨k + 1, by go_num, by omega, HB.out⟩
        case measure => simp [intOf]; omega
    · have dk : decide ((k : Int) < (L : Int)) = false := decide_eq_false (by omega)
      obtain ⟨i2, hi2, hz2, hz3, hz4⟩ := info_parts nxinfo2
      obtain ⟨i3, hi3, hy2, hy3, hy4⟩ := info_parts nxinfo3
      have H0 : Hid (Below wr.heap.size wr (wr.alloc (.cells #[.int .i64 S.term] 2)) ∧ Blk (wr.alloc (.cells #[.int .i64 S.term] 2)) wr.heap.size 2 #[.int .i64 S.term]) := Lib.hid ⟨(Below.refl _ _).alloc (Nat.le_refl _) _, Blk.new _ _ _⟩
      have HO : Hid ((wr.alloc (.cells #[.int .i64 S.term] 2)).ownsRow 0 2 1 (.slice v.Ad L v.cd) L (rowOf tcell Z.leads)) := by rw [HL.out]; exact Lib.hid (own_below HN.out.ld H0.out.1)
      go_upto_region 7 with (first | (at_builtin; generalize wr.alloc (.cells #[.int .i64 S.term] 2) = w0 at *; refine wpList_append_any _ rfl (.tmp 39) (.tmp 41) 51 rfl 0 2 i2 (.int .i64 0) 1 8 nxunder51 hi2 hz2 hz3 hz4 rfl (by decide) (.slice v.Ad L v.cd) L (rowOf tcell Z.leads) rfl HO.out w0.heap.size (some ⟨wr.heap.size, 0, none⟩) 1 1 [.int .i64 S.term] rfl (reads_one H0.out.2 H0.out.2.lt) (by simp [Value.oneCell']) (by unfold maxLen; omega) (by omega) (Nat.zero_le _) ?_; intro v1 w1 ho1 hg1 ha1; obtain ⟨A1, c1, rfl, _⟩ := own_form ho1; have H1 := Lib.hid (And.intro ho1 (And.intro hg1 ha1)); clear ho1 hg1 ha1; have H2 : Hid _ := Lib.hid (HN.out.newLead (w1 := w1) (y := S.term) (A' := A1) (c' := c1) H0.out.1 (by rw [← HL.out, rowOf_append]; exact H1.out.1) (by rw [← HL.out]; exact H1.out.2.1) (by rw [← HL.out]; exact H1.out.2.2)); rw [← HL.out] at H2; have d1 := H2.out.1.1; have f1 := H2.out.1.2) | fail)
      generalize w1.setCell ⟨gN, 10, none⟩ (.slice A1 (L + 1) c1) = w2 at *
      have HO2 : Hid (w2.ownsRow 0 3 1 (.slice v.Ah L v.ch) L (rowOf hcell Z.whose)) := by rw [HLW.out]; exact Lib.hid H2.out.2.1.wh
      have c11 := H2.out.2.1.c11
      rw [← HLW.out] at c11
      have H3 : Hid (Below w2.heap.size w2 (w2.alloc (.cells #[.int .i64 (i : Nat)] 3)) ∧ Blk (w2.alloc (.cells #[.int .i64 (i : Nat)] 3)) w2.heap.size 3 #[.int .i64 (i : Nat)]) := Lib.hid ⟨(Below.refl _ _).alloc (Nat.le_refl _) _, Blk.new _ _ _⟩
      have HO3 : Hid ((w2.alloc (.cells #[.int .i64 (i : Nat)] 3)).ownsRow 0 3 1 (.slice v.Ah L v.ch) L (rowOf hcell Z.whose)) := Lib.hid (own_below HO2.out H3.out.1)
      clear d1 f1 c10
      go_wp2_with (first | (at_builtin; generalize w2.alloc (.cells #[.int .i64 (i : Nat)] 3) = w3 at *; refine wpList_append_any _ rfl (.tmp 49) (.tmp 51) 52 rfl 0 3 i3 (.int .i64 0) 1 8 nxunder52 hi3 hy2 hy3 hy4 rfl (by decide) (.slice v.Ah L v.ch) L (rowOf hcell Z.whose) rfl HO3.out w3.heap.size (some ⟨w2.heap.size, 0, none⟩) 1 1 [.int .i64 (i : Nat)] rfl (reads_one H3.out.2 H3.out.2.lt) (by simp [Value.oneCell']) (by unfold maxLen; omega) (by omega) (Nat.zero_le _) ?_; intro v1 w4 ho1 hg1 ha1; obtain ⟨A4, c4, rfl, _⟩ := own_form ho1; have H4 := Lib.hid (And.intro ho1 (And.intro hg1 ha1)); clear ho1 hg1 ha1; have H5 : Hid _ := Lib.hid (H2.out.2.1.newWhose (w1 := w4) (y := i) (A' := A4) (c' := c4) H3.out.1 (by dsimp only; rw [← HLW.out, rowOf_append]; exact H4.out.1) (by dsimp only; rw [← HLW.out]; exact H4.out.2.1) (by dsimp only; rw [← HLW.out]; exact H4.out.2.2)); dsimp only at H5; rw [← HLW.out] at H5; have d1 := H5.out.1.1; have f1 := H5.out.1.2) | fail)
      go_ret
      exact ⟨ret_bool (by simp), _, _, _, ⟨H5.out.2.1, HA.out.s.leadMore (sv_at HI.out.1) HI.out.2, HA.out.o⟩, by simp, rfl, ⟨rfl, rfl⟩, (Chg.of_below HB.out).trans ((H2.out.2.2.mono (fun b hb => (HN.out.Xw b hb).1)).trans (H5.out.2.2.mono (fun b hb => (H2.out.2.1.Xw b hb).1)))⟩
end Go.Proofs.Ytjodglepaeomiaa
