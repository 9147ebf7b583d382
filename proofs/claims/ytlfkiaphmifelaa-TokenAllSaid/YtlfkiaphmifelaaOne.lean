/- Contract of the document's One. -/
import Derived.Laws.CopyOwn
import Derived.Test.YtlfkiaphmifelaaSgn
import Derived.Test.YtlfkiaphmifelaaRtx
import Derived.Test.YtlfkiaphmifelaaRnm
import Derived.Test.YtlfkiaphmifelaaWrd
namespace Go.Proofs.Ytlfkiaphmifelaa
open Go.RowKit

set_option maxRecDepth 100000 in
set_option maxHeartbeats 8000000 in
theorem refOne_any (s : List UInt8) (i : Nat) (c0 : UInt8) (hs : s.length ≤ 100000) (hc0 : s[i]? = some c0) (w : World) :
    Calls Try.prog 21 #[.string ⟨s.toArray⟩, .int .i64 (i : Nat)] w (ToldPost w (oneL s i c0)) := by
  obtain ⟨st, hst⟩ : ∃ st : ByteArray, st = ⟨s.toArray⟩ := ⟨_, rfl⟩
  have hsz : st.size = s.length := by rw [hst]; rfl
  obtain ⟨n, hn⟩ : ∃ n, n = s.length := ⟨_, rfl⟩
  have hil : i < s.length := (List.getElem?_eq_some_iff.1 hc0).1
  have hsi : s[i] = c0 := by have h := hc0; rw [List.getElem?_eq_getElem hil] at h; injection h
  have hist0 : i < st.size := by omega
  obtain ⟨v0, hv0⟩ : ∃ v, v = c0.toNat := ⟨_, rfl⟩
  have hg0 : st[i].toNat = v0 := by rw [hv0, ← hsi, st_get hst hist0 hil]
  have hv0l : v0 < 256 := by rw [hv0]; exact UInt8.toNat_lt _
  have HC34 : Hid (c0 = 34 ↔ v0 = 34) := by rw [hv0]; exact ⟨fun h => by rw [h]; rfl, fun h => UInt8.toNat_inj.1 h⟩
  have HLO := Lib.hid (fun W => low_any c0 W)
  have HDI := Lib.hid (fun W => dig_any c0 W)
  have HWO := Lib.hid (fun W => word_any s i hs (by omega) W)
  have HTX := Lib.hid (fun W => refText_any s i hs hil W)
  have HSI := Lib.hid (fun W => refSign_any s i c0 hs hc0 W)
  have HNU := Lib.hid (fun (hd : digB c0 = true) W => refNumber_any s i c0 hs hc0 hd W)
  have HON : Hid (oneL s i c0 = if lowB c0 then wordL s i else if digB c0 then numT s i else if c0 = 34 then textT s i else signL s i c0) := rfl
  rw [← hv0] at HLO HDI
  rw [← hst] at HWO HTX HSI HNU ⊢
  rw [← hn] at hsz hs hil
  have HST := Lib.hid hst
  clear hst hsi hc0 hv0
  go_enter Try.func21, Try.ntmps21
  go_wp2_with fail
  refine (HLO.out _).mono ?_
  rintro e w2 ⟨rfl, hw2⟩
  rw [hw2]
  clear hw2 w2
  cases hlo : lowB c0
  · have HLF := Lib.hid hlo
    cases hdi : digB c0
    · have HDF := Lib.hid hdi
      go_wp2_with fail
      refine (HDI.out _).mono ?_
      rintro e w2 ⟨rfl, hw2⟩
      rw [hw2, hdi]
      clear hw2 w2
      by_cases h34 : v0 = 34
      · have hb34 : ((v0 : Int) == 34) = true := by rw [h34]; rfl
        have HR : Hid (oneL s i c0 = textT s i) := by rw [HON.out, HLF.out, HDF.out]; exact if_pos (HC34.out.2 h34)
        clear h34
        rcases hr : textT s i with ⟨q, er⟩ | ⟨t, e1⟩
        · have HR2 := Lib.hid hr
          rw [hr] at HR; clear hr
          go_wp2_with fail
          refine (HTX.out _).mono ?_
          intro e w2 hq
          obtain ⟨he, hb2⟩ := hq
          rw [HR2.out] at he
          unfold told toldV at he
          subst he
          have HB2 := Lib.hid (((Below.refl _ _).alloc (Nat.le_refl _) _).trans (hb2.mono (by simp)))
          have HY2 : Hid (Blk w2 w.heap.size 43 #[.int .u8 0, .string ⟨#[]⟩, .int .i64 0, .int .i64 0, .int .i64 0, .int .i64 0, .int .i64 0]) := (hb2.block _ (by simp)).trans (Blk.new w 43 _)
          clear hb2
          go_wp2_with (refine wpList_store_row rfl 43 _ _ rfl w.heap.size #[.int .u8 0, .string ⟨#[]⟩, .int .i64 0, .int .i64 0, .int .i64 0, .int .i64 (q : Nat), .int .i64 (er : Nat)] rfl rfl 43 _ HY2.out (by kernel_rfl) (by kernel_rfl) (by kernel_rfl) ?_)
          refine bodyPost_ret (results_cell_row rfl _ _ w.heap.size 43 #[.int .u8 0, .string ⟨#[]⟩, .int .i64 0, .int .i64 0, .int .i64 0, .int .i64 (q : Nat), .int .i64 (er : Nat)] (0, 0) _ rfl (setRow_heap _ w.heap.size _ _ 43 _ HY2.out) Try.underlying43 rfl (by kernel_rfl)) rfl ⟨by rw [HR.out]; rfl, below_setRow HB2.out (Nat.le_refl _) _⟩
        · have HR2 := Lib.hid hr
          rw [hr] at HR; clear hr
          go_wp2_with fail
          refine (HTX.out _).mono ?_
          intro e w2 hq
          obtain ⟨he, hb2⟩ := hq
          rw [HR2.out] at he
          unfold told toldV at he
          subst he
          have HB2 := Lib.hid (((Below.refl _ _).alloc (Nat.le_refl _) _).trans (hb2.mono (by simp)))
          have HY2 : Hid (Blk w2 w.heap.size 43 #[.int .u8 0, .string ⟨#[]⟩, .int .i64 0, .int .i64 0, .int .i64 0, .int .i64 0, .int .i64 0]) := (hb2.block _ (by simp)).trans (Blk.new w 43 _)
          clear hb2
          go_wp2_with (refine wpList_store_row rfl 43 _ _ rfl w.heap.size #[.int .u8 (t.kind : Nat), .string ⟨t.text.toArray⟩, .int .i64 (t.int : Nat), .int .i64 (t.place : Nat), .int .i64 (e1 : Nat), .int .i64 0, .int .i64 0] rfl rfl 43 _ HY2.out (by kernel_rfl) (by kernel_rfl) (by kernel_rfl) ?_)
          refine bodyPost_ret (results_cell_row rfl _ _ w.heap.size 43 #[.int .u8 (t.kind : Nat), .string ⟨t.text.toArray⟩, .int .i64 (t.int : Nat), .int .i64 (t.place : Nat), .int .i64 (e1 : Nat), .int .i64 0, .int .i64 0] (0, 0) _ rfl (setRow_heap _ w.heap.size _ _ 43 _ HY2.out) Try.underlying43 rfl (by kernel_rfl)) rfl ⟨by rw [HR.out]; rfl, below_setRow HB2.out (Nat.le_refl _) _⟩
      · have hb34 : ((v0 : Int) == 34) = false := by rw [beq_eq_false_iff_ne]; omega
        have HR : Hid (oneL s i c0 = signL s i c0) := by rw [HON.out, HLF.out, HDF.out]; exact if_neg (fun h => h34 (HC34.out.1 h))
        clear h34
        rcases hr : signL s i c0 with ⟨q, er⟩ | ⟨t, e1⟩
        · have HR2 := Lib.hid hr
          rw [hr] at HR; clear hr
          go_wp2_with fail
          refine (HSI.out _).mono ?_
          intro e w2 hq
          obtain ⟨he, hb2⟩ := hq
          rw [HR2.out] at he
          unfold told toldV at he
          subst he
          have HB2 := Lib.hid (((Below.refl _ _).alloc (Nat.le_refl _) _).trans (hb2.mono (by simp)))
          have HY2 : Hid (Blk w2 w.heap.size 43 #[.int .u8 0, .string ⟨#[]⟩, .int .i64 0, .int .i64 0, .int .i64 0, .int .i64 0, .int .i64 0]) := (hb2.block _ (by simp)).trans (Blk.new w 43 _)
          clear hb2
          go_wp2_with (refine wpList_store_row rfl 43 _ _ rfl w.heap.size #[.int .u8 0, .string ⟨#[]⟩, .int .i64 0, .int .i64 0, .int .i64 0, .int .i64 (q : Nat), .int .i64 (er : Nat)] rfl rfl 43 _ HY2.out (by kernel_rfl) (by kernel_rfl) (by kernel_rfl) ?_)
          refine bodyPost_ret (results_cell_row rfl _ _ w.heap.size 43 #[.int .u8 0, .string ⟨#[]⟩, .int .i64 0, .int .i64 0, .int .i64 0, .int .i64 (q : Nat), .int .i64 (er : Nat)] (0, 0) _ rfl (setRow_heap _ w.heap.size _ _ 43 _ HY2.out) Try.underlying43 rfl (by kernel_rfl)) rfl ⟨by rw [HR.out]; rfl, below_setRow HB2.out (Nat.le_refl _) _⟩
        · have HR2 := Lib.hid hr
          rw [hr] at HR; clear hr
          go_wp2_with fail
          refine (HSI.out _).mono ?_
          intro e w2 hq
          obtain ⟨he, hb2⟩ := hq
          rw [HR2.out] at he
          unfold told toldV at he
          subst he
          have HB2 := Lib.hid (((Below.refl _ _).alloc (Nat.le_refl _) _).trans (hb2.mono (by simp)))
          have HY2 : Hid (Blk w2 w.heap.size 43 #[.int .u8 0, .string ⟨#[]⟩, .int .i64 0, .int .i64 0, .int .i64 0, .int .i64 0, .int .i64 0]) := (hb2.block _ (by simp)).trans (Blk.new w 43 _)
          clear hb2
          go_wp2_with (refine wpList_store_row rfl 43 _ _ rfl w.heap.size #[.int .u8 (t.kind : Nat), .string ⟨t.text.toArray⟩, .int .i64 (t.int : Nat), .int .i64 (t.place : Nat), .int .i64 (e1 : Nat), .int .i64 0, .int .i64 0] rfl rfl 43 _ HY2.out (by kernel_rfl) (by kernel_rfl) (by kernel_rfl) ?_)
          refine bodyPost_ret (results_cell_row rfl _ _ w.heap.size 43 #[.int .u8 (t.kind : Nat), .string ⟨t.text.toArray⟩, .int .i64 (t.int : Nat), .int .i64 (t.place : Nat), .int .i64 (e1 : Nat), .int .i64 0, .int .i64 0] (0, 0) _ rfl (setRow_heap _ w.heap.size _ _ 43 _ HY2.out) Try.underlying43 rfl (by kernel_rfl)) rfl ⟨by rw [HR.out]; rfl, below_setRow HB2.out (Nat.le_refl _) _⟩
    · have HDF := Lib.hid hdi
      have HR : Hid (oneL s i c0 = numT s i) := by rw [HON.out, HLF.out, HDF.out]; exact rfl
      go_wp2_with fail
      refine (HDI.out _).mono ?_
      rintro e w2 ⟨rfl, hw2⟩
      rw [hw2, hdi]
      clear hw2 w2
      rcases hr : numT s i with ⟨q, er⟩ | ⟨t, e1⟩
      · have HR2 := Lib.hid hr
        rw [hr] at HR; clear hr
        go_wp2_with fail
        refine (HNU.out HDF.out _).mono ?_
        intro e w2 hq
        obtain ⟨he, hb2⟩ := hq
        rw [HR2.out] at he
        unfold told toldV at he
        subst he
        have HB2 := Lib.hid (((Below.refl _ _).alloc (Nat.le_refl _) _).trans (hb2.mono (by simp)))
        have HY2 : Hid (Blk w2 w.heap.size 43 #[.int .u8 0, .string ⟨#[]⟩, .int .i64 0, .int .i64 0, .int .i64 0, .int .i64 0, .int .i64 0]) := (hb2.block _ (by simp)).trans (Blk.new w 43 _)
        clear hb2
        go_wp2_with (refine wpList_store_row rfl 43 _ _ rfl w.heap.size #[.int .u8 0, .string ⟨#[]⟩, .int .i64 0, .int .i64 0, .int .i64 0, .int .i64 (q : Nat), .int .i64 (er : Nat)] rfl rfl 43 _ HY2.out (by kernel_rfl) (by kernel_rfl) (by kernel_rfl) ?_)
        refine bodyPost_ret (results_cell_row rfl _ _ w.heap.size 43 #[.int .u8 0, .string ⟨#[]⟩, .int .i64 0, .int .i64 0, .int .i64 0, .int .i64 (q : Nat), .int .i64 (er : Nat)] (0, 0) _ rfl (setRow_heap _ w.heap.size _ _ 43 _ HY2.out) Try.underlying43 rfl (by kernel_rfl)) rfl ⟨by rw [HR.out]; rfl, below_setRow HB2.out (Nat.le_refl _) _⟩
      · have HR2 := Lib.hid hr
        rw [hr] at HR; clear hr
        go_wp2_with fail
        refine (HNU.out HDF.out _).mono ?_
        intro e w2 hq
        obtain ⟨he, hb2⟩ := hq
        rw [HR2.out] at he
        unfold told toldV at he
        subst he
        have HB2 := Lib.hid (((Below.refl _ _).alloc (Nat.le_refl _) _).trans (hb2.mono (by simp)))
        have HY2 : Hid (Blk w2 w.heap.size 43 #[.int .u8 0, .string ⟨#[]⟩, .int .i64 0, .int .i64 0, .int .i64 0, .int .i64 0, .int .i64 0]) := (hb2.block _ (by simp)).trans (Blk.new w 43 _)
        clear hb2
        go_wp2_with (refine wpList_store_row rfl 43 _ _ rfl w.heap.size #[.int .u8 (t.kind : Nat), .string ⟨t.text.toArray⟩, .int .i64 (t.int : Nat), .int .i64 (t.place : Nat), .int .i64 (e1 : Nat), .int .i64 0, .int .i64 0] rfl rfl 43 _ HY2.out (by kernel_rfl) (by kernel_rfl) (by kernel_rfl) ?_)
        refine bodyPost_ret (results_cell_row rfl _ _ w.heap.size 43 #[.int .u8 (t.kind : Nat), .string ⟨t.text.toArray⟩, .int .i64 (t.int : Nat), .int .i64 (t.place : Nat), .int .i64 (e1 : Nat), .int .i64 0, .int .i64 0] (0, 0) _ rfl (setRow_heap _ w.heap.size _ _ 43 _ HY2.out) Try.underlying43 rfl (by kernel_rfl)) rfl ⟨by rw [HR.out]; rfl, below_setRow HB2.out (Nat.le_refl _) _⟩
  · have HR : Hid (oneL s i c0 = wordL s i) := by rw [HON.out, hlo]; exact rfl
    rcases hr : wordL s i with ⟨q, er⟩ | ⟨t, e1⟩
    · have HR2 := Lib.hid hr
      rw [hr] at HR; clear hr
      go_wp2_with fail
      refine (HWO.out _).mono ?_
      intro e w2 hq
      obtain ⟨he, hb2⟩ := hq
      rw [HR2.out] at he
      unfold told toldV at he
      subst he
      have HB2 := Lib.hid (((Below.refl _ _).alloc (Nat.le_refl _) _).trans (hb2.mono (by simp)))
      have HY2 : Hid (Blk w2 w.heap.size 43 #[.int .u8 0, .string ⟨#[]⟩, .int .i64 0, .int .i64 0, .int .i64 0, .int .i64 0, .int .i64 0]) := (hb2.block _ (by simp)).trans (Blk.new w 43 _)
      clear hb2
      go_wp2_with (refine wpList_store_row rfl 43 _ _ rfl w.heap.size #[.int .u8 0, .string ⟨#[]⟩, .int .i64 0, .int .i64 0, .int .i64 0, .int .i64 (q : Nat), .int .i64 (er : Nat)] rfl rfl 43 _ HY2.out (by kernel_rfl) (by kernel_rfl) (by kernel_rfl) ?_)
      refine bodyPost_ret (results_cell_row rfl _ _ w.heap.size 43 #[.int .u8 0, .string ⟨#[]⟩, .int .i64 0, .int .i64 0, .int .i64 0, .int .i64 (q : Nat), .int .i64 (er : Nat)] (0, 0) _ rfl (setRow_heap _ w.heap.size _ _ 43 _ HY2.out) Try.underlying43 rfl (by kernel_rfl)) rfl ⟨by rw [HR.out]; rfl, below_setRow HB2.out (Nat.le_refl _) _⟩
    · have HR2 := Lib.hid hr
      rw [hr] at HR; clear hr
      go_wp2_with fail
      refine (HWO.out _).mono ?_
      intro e w2 hq
      obtain ⟨he, hb2⟩ := hq
      rw [HR2.out] at he
      unfold told toldV at he
      subst he
      have HB2 := Lib.hid (((Below.refl _ _).alloc (Nat.le_refl _) _).trans (hb2.mono (by simp)))
      have HY2 : Hid (Blk w2 w.heap.size 43 #[.int .u8 0, .string ⟨#[]⟩, .int .i64 0, .int .i64 0, .int .i64 0, .int .i64 0, .int .i64 0]) := (hb2.block _ (by simp)).trans (Blk.new w 43 _)
      clear hb2
      go_wp2_with (refine wpList_store_row rfl 43 _ _ rfl w.heap.size #[.int .u8 (t.kind : Nat), .string ⟨t.text.toArray⟩, .int .i64 (t.int : Nat), .int .i64 (t.place : Nat), .int .i64 (e1 : Nat), .int .i64 0, .int .i64 0] rfl rfl 43 _ HY2.out (by kernel_rfl) (by kernel_rfl) (by kernel_rfl) ?_)
      refine bodyPost_ret (results_cell_row rfl _ _ w.heap.size 43 #[.int .u8 (t.kind : Nat), .string ⟨t.text.toArray⟩, .int .i64 (t.int : Nat), .int .i64 (t.place : Nat), .int .i64 (e1 : Nat), .int .i64 0, .int .i64 0] (0, 0) _ rfl (setRow_heap _ w.heap.size _ _ 43 _ HY2.out) Try.underlying43 rfl (by kernel_rfl)) rfl ⟨by rw [HR.out]; rfl, below_setRow HB2.out (Nat.le_refl _) _⟩
end Go.Proofs.Ytlfkiaphmifelaa
