/- Contract of the document's One. And what follows from it. -/
import Derived.Laws.CopyOwn
import Derived.Deep.QuietTactic
import Derived.BigQuiet
import Derived.Test.YtbcadlocldplfaaGreatMah
import Derived.Test.YtbcadlocldplfaaGreatMai
import Derived.Test.YtbcadlocldplfaaGreatMaj
set_option linter.unusedSimpArgs false
set_option linter.unusedVariables false
namespace Go.Proofs.YtbcadlocldplfaaGreat
set_option maxRecDepth 100000
open Go.RowKit
set_option maxRecDepth 100000 in
set_option maxHeartbeats 8000000 in
theorem refOne_any (s : List UInt8) (i : Nat) (c0 : UInt8) (hs : s.length ≤ 100000) (hc0 : s[i]? = some c0) (w : World) :
    Calls Tryz.prog 41 #[.string ⟨s.toArray⟩, .int .i64 (i : Nat)] w (ToldPost w (oneL s i c0)) := by
  obtain ⟨st, hst⟩ : ∃ st : ByteArray, st = ⟨s.toArray⟩ := ⟨_, rfl⟩
  have hsz : st.size = s.length := by rw [hst]; rfl
  obtain ⟨n, hn⟩ : ∃ n, n = s.length := ⟨_, rfl⟩
  have hil : i < s.length := (List.getElem?_eq_some_iff.1 hc0).1
  have hsi : s[i] = c0 := by have h := hc0; rw [List.getElem?_eq_getElem hil] at h; injection h
  have hist0 : i < st.size := by omega
  obtain ⟨v0, hv0⟩ : ∃ v, v = c0.toNat := ⟨_, rfl⟩
  have hg0 : st[i].toNat = v0 := by rw [hv0, ← hsi, st_get hst hist0 hil]
  have hv0l : v0 < 256 := by rw [hv0]; exact UInt8.toNat_lt _
  have HC34 : Hid (c0 = 34 ↔ v0 = 34) := by rw [hv0]; exact ⟨fun h => by rw [h]; rfl, fun h => UInt8.toNat_inj.1 h⟩
  have HLO := Lib.hid (fun W => low_any c0 W)
  have HDI := Lib.hid (fun W => dig_any c0 W)
  have HWO := Lib.hid (fun W => word_any s i hs (by omega) W)
  have HTX := Lib.hid (fun W => refText_any s i hs hil W)
  have HSI := Lib.hid (fun W => refSign_any s i c0 hs hc0 W)
  have HNU := Lib.hid (fun (hd : digB c0 = true) W => refNumber_any s i c0 hs hc0 hd W)
  have HON : Hid (oneL s i c0 = if lowB c0 then wordL s i else if digB c0 then numT s i else if c0 = 34 then textT s i else signL s i c0) := rfl
  rw [← hv0] at HLO HDI
  rw [← hst] at HWO HTX HSI HNU ⊢
  rw [← hn] at hsz hs hil
  have HST := Lib.hid hst
  clear hst hsi hc0 hv0
  go_enter Tryz.func41, Tryz.ntmps41
  go_wp2_with fail
  refine (HLO.out _).mono ?_
  rintro e w2 ⟨rfl, hw2⟩
  rw [hw2]
  clear hw2 w2
  cases hlo : lowB c0
  · have HLF := Lib.hid hlo
    cases hdi : digB c0
    · have HDF := Lib.hid hdi
      go_wp2_with fail
      refine (HDI.out _).mono ?_
      rintro e w2 ⟨rfl, hw2⟩
      rw [hw2, hdi]
      clear hw2 w2
      by_cases h34 : v0 = 34
      · have hb34 : ((v0 : Int) == 34) = true := by rw [h34]; rfl
        have HR : Hid (oneL s i c0 = textT s i) := by rw [HON.out, HLF.out, HDF.out]; exact if_pos (HC34.out.2 h34)
        clear h34
        rcases hr : textT s i with ⟨q, er⟩ | ⟨t, e1⟩
        · have HR2 := Lib.hid hr
          rw [hr] at HR; clear hr
          go_wp2_with fail
          refine (HTX.out _).mono ?_
          intro e w2 hq
          obtain ⟨he, hb2⟩ := hq
          rw [HR2.out] at he
          unfold told toldV at he
          subst he
          have HB2 := Lib.hid (((Below.refl _ _).alloc (Nat.le_refl _) _).trans (hb2.mono (by simp)))
          have HY2 : Hid (Blk w2 w.heap.size 72 #[.int .u8 0, .string ⟨#[]⟩, .int .i64 0, .int .i64 0, .int .i64 0, .int .i64 0, .int .i64 0]) := (hb2.block _ (by simp)).trans (Blk.new w 72 _)
          clear hb2
          go_wp2_with (refine wpList_store_row rfl 72 _ _ rfl w.heap.size #[.int .u8 0, .string ⟨#[]⟩, .int .i64 0, .int .i64 0, .int .i64 0, .int .i64 (q : Nat), .int .i64 (er : Nat)] rfl rfl 72 _ HY2.out (by kernel_rfl) (by kernel_rfl) (by kernel_rfl) ?_)
          refine bodyPost_ret (results_cell_row rfl _ _ w.heap.size 72 #[.int .u8 0, .string ⟨#[]⟩, .int .i64 0, .int .i64 0, .int .i64 0, .int .i64 (q : Nat), .int .i64 (er : Nat)] (0, 0) _ rfl (setRow_heap _ w.heap.size _ _ 72 _ HY2.out) Tryz.underlying72 rfl (by kernel_rfl)) rfl ⟨by rw [HR.out]; rfl, below_setRow HB2.out (Nat.le_refl _) _⟩
        · have HR2 := Lib.hid hr
          rw [hr] at HR; clear hr
          go_wp2_with fail
          refine (HTX.out _).mono ?_
          intro e w2 hq
          obtain ⟨he, hb2⟩ := hq
          rw [HR2.out] at he
          unfold told toldV at he
          subst he
          have HB2 := Lib.hid (((Below.refl _ _).alloc (Nat.le_refl _) _).trans (hb2.mono (by simp)))
          have HY2 : Hid (Blk w2 w.heap.size 72 #[.int .u8 0, .string ⟨#[]⟩, .int .i64 0, .int .i64 0, .int .i64 0, .int .i64 0, .int .i64 0]) := (hb2.block _ (by simp)).trans (Blk.new w 72 _)
          clear hb2
          go_wp2_with (refine wpList_store_row rfl 72 _ _ rfl w.heap.size #[.int .u8 (t.kind : Nat), .string ⟨t.text.toArray⟩, .int .i64 (t.int : Nat), .int .i64 (t.place : Nat), .int .i64 (e1 : Nat), .int .i64 0, .int .i64 0] rfl rfl 72 _ HY2.out (by kernel_rfl) (by kernel_rfl) (by kernel_rfl) ?_)
          refine bodyPost_ret (results_cell_row rfl _ _ w.heap.size 72 #[.int .u8 (t.kind : Nat), .string ⟨t.text.toArray⟩, .int .i64 (t.int : Nat), .int .i64 (t.place : Nat), .int .i64 (e1 : Nat), .int .i64 0, .int .i64 0] (0, 0) _ rfl (setRow_heap _ w.heap.size _ _ 72 _ HY2.out) Tryz.underlying72 rfl (by kernel_rfl)) rfl ⟨by rw [HR.out]; rfl, below_setRow HB2.out (Nat.le_refl _) _⟩
      · have hb34 : ((v0 : Int) == 34) = false := by rw [beq_eq_false_iff_ne]; omega
        have HR : Hid (oneL s i c0 = signL s i c0) := by rw [HON.out, HLF.out, HDF.out]; exact if_neg (fun h => h34 (HC34.out.1 h))
        clear h34
        rcases hr : signL s i c0 with ⟨q, er⟩ | ⟨t, e1⟩
        · have HR2 := Lib.hid hr
          rw [hr] at HR; clear hr
          go_wp2_with fail
          refine (HSI.out _).mono ?_
          intro e w2 hq
          obtain ⟨he, hb2⟩ := hq
          rw [HR2.out] at he
          unfold told toldV at he
          subst he
          have HB2 := Lib.hid (((Below.refl _ _).alloc (Nat.le_refl _) _).trans (hb2.mono (by simp)))
          have HY2 : Hid (Blk w2 w.heap.size 72 #[.int .u8 0, .string ⟨#[]⟩, .int .i64 0, .int .i64 0, .int .i64 0, .int .i64 0, .int .i64 0]) := (hb2.block _ (by simp)).trans (Blk.new w 72 _)
          clear hb2
          go_wp2_with (refine wpList_store_row rfl 72 _ _ rfl w.heap.size #[.int .u8 0, .string ⟨#[]⟩, .int .i64 0, .int .i64 0, .int .i64 0, .int .i64 (q : Nat), .int .i64 (er : Nat)] rfl rfl 72 _ HY2.out (by kernel_rfl) (by kernel_rfl) (by kernel_rfl) ?_)
          refine bodyPost_ret (results_cell_row rfl _ _ w.heap.size 72 #[.int .u8 0, .string ⟨#[]⟩, .int .i64 0, .int .i64 0, .int .i64 0, .int .i64 (q : Nat), .int .i64 (er : Nat)] (0, 0) _ rfl (setRow_heap _ w.heap.size _ _ 72 _ HY2.out) Tryz.underlying72 rfl (by kernel_rfl)) rfl ⟨by rw [HR.out]; rfl, below_setRow HB2.out (Nat.le_refl _) _⟩
        · have HR2 := Lib.hid hr
          rw [hr] at HR; clear hr
          go_wp2_with fail
          refine (HSI.out _).mono ?_
          intro e w2 hq
          obtain ⟨he, hb2⟩ := hq
          rw [HR2.out] at he
          unfold told toldV at he
          subst he
          have HB2 := Lib.hid (((Below.refl _ _).alloc (Nat.le_refl _) _).trans (hb2.mono (by simp)))
          have HY2 : Hid (Blk w2 w.heap.size 72 #[.int .u8 0, .string ⟨#[]⟩, .int .i64 0, .int .i64 0, .int .i64 0, .int .i64 0, .int .i64 0]) := (hb2.block _ (by simp)).trans (Blk.new w 72 _)
          clear hb2
          go_wp2_with (refine wpList_store_row rfl 72 _ _ rfl w.heap.size #[.int .u8 (t.kind : Nat), .string ⟨t.text.toArray⟩, .int .i64 (t.int : Nat), .int .i64 (t.place : Nat), .int .i64 (e1 : Nat), .int .i64 0, .int .i64 0] rfl rfl 72 _ HY2.out (by kernel_rfl) (by kernel_rfl) (by kernel_rfl) ?_)
          refine bodyPost_ret (results_cell_row rfl _ _ w.heap.size 72 #[.int .u8 (t.kind : Nat), .string ⟨t.text.toArray⟩, .int .i64 (t.int : Nat), .int .i64 (t.place : Nat), .int .i64 (e1 : Nat), .int .i64 0, .int .i64 0] (0, 0) _ rfl (setRow_heap _ w.heap.size _ _ 72 _ HY2.out) Tryz.underlying72 rfl (by kernel_rfl)) rfl ⟨by rw [HR.out]; rfl, below_setRow HB2.out (Nat.le_refl _) _⟩
    · have HDF := Lib.hid hdi
      have HR : Hid (oneL s i c0 = numT s i) := by rw [HON.out, HLF.out, HDF.out]; exact rfl
      go_wp2_with fail
      refine (HDI.out _).mono ?_
      rintro e w2 ⟨rfl, hw2⟩
      rw [hw2, hdi]
      clear hw2 w2
      rcases hr : numT s i with ⟨q, er⟩ | ⟨t, e1⟩
      · have HR2 := Lib.hid hr
        rw [hr] at HR; clear hr
        go_wp2_with fail
        refine (HNU.out HDF.out _).mono ?_
        intro e w2 hq
        obtain ⟨he, hb2⟩ := hq
        rw [HR2.out] at he
        unfold told toldV at he
        subst he
        have HB2 := Lib.hid (((Below.refl _ _).alloc (Nat.le_refl _) _).trans (hb2.mono (by simp)))
        have HY2 : Hid (Blk w2 w.heap.size 72 #[.int .u8 0, .string ⟨#[]⟩, .int .i64 0, .int .i64 0, .int .i64 0, .int .i64 0, .int .i64 0]) := (hb2.block _ (by simp)).trans (Blk.new w 72 _)
        clear hb2
        go_wp2_with (refine wpList_store_row rfl 72 _ _ rfl w.heap.size #[.int .u8 0, .string ⟨#[]⟩, .int .i64 0, .int .i64 0, .int .i64 0, .int .i64 (q : Nat), .int .i64 (er : Nat)] rfl rfl 72 _ HY2.out (by kernel_rfl) (by kernel_rfl) (by kernel_rfl) ?_)
        refine bodyPost_ret (results_cell_row rfl _ _ w.heap.size 72 #[.int .u8 0, .string ⟨#[]⟩, .int .i64 0, .int .i64 0, .int .i64 0, .int .i64 (q : Nat), .int .i64 (er : Nat)] (0, 0) _ rfl (setRow_heap _ w.heap.size _ _ 72 _ HY2.out) Tryz.underlying72 rfl (by kernel_rfl)) rfl ⟨by rw [HR.out]; rfl, below_setRow HB2.out (Nat.le_refl _) _⟩
      · have HR2 := Lib.hid hr
        rw [hr] at HR; clear hr
        go_wp2_with fail
        refine (HNU.out HDF.out _).mono ?_
        intro e w2 hq
        obtain ⟨he, hb2⟩ := hq
        rw [HR2.out] at he
        unfold told toldV at he
        subst he
        have HB2 := Lib.hid (((Below.refl _ _).alloc (Nat.le_refl _) _).trans (hb2.mono (by simp)))
        have HY2 : Hid (Blk w2 w.heap.size 72 #[.int .u8 0, .string ⟨#[]⟩, .int .i64 0, .int .i64 0, .int .i64 0, .int .i64 0, .int .i64 0]) := (hb2.block _ (by simp)).trans (Blk.new w 72 _)
        clear hb2
        go_wp2_with (refine wpList_store_row rfl 72 _ _ rfl w.heap.size #[.int .u8 (t.kind : Nat), .string ⟨t.text.toArray⟩, .int .i64 (t.int : Nat), .int .i64 (t.place : Nat), .int .i64 (e1 : Nat), .int .i64 0, .int .i64 0] rfl rfl 72 _ HY2.out (by kernel_rfl) (by kernel_rfl) (by kernel_rfl) ?_)
        refine bodyPost_ret (results_cell_row rfl _ _ w.heap.size 72 #[.int .u8 (t.kind : Nat), .string ⟨t.text.toArray⟩, .int .i64 (t.int : Nat), .int .i64 (t.place : Nat), .int .i64 (e1 : Nat), .int .i64 0, .int .i64 0] (0, 0) _ rfl (setRow_heap _ w.heap.size _ _ 72 _ HY2.out) Tryz.underlying72 rfl (by kernel_rfl)) rfl ⟨by rw [HR.out]; rfl, below_setRow HB2.out (Nat.le_refl _) _⟩
  · have HR : Hid (oneL s i c0 = wordL s i) := by rw [HON.out, hlo]; exact rfl
    rcases hr : wordL s i with ⟨q, er⟩ | ⟨t, e1⟩
    · have HR2 := Lib.hid hr
      rw [hr] at HR; clear hr
      go_wp2_with fail
      refine (HWO.out _).mono ?_
      intro e w2 hq
      obtain ⟨he, hb2⟩ := hq
      rw [HR2.out] at he
      unfold told toldV at he
      subst he
      have HB2 := Lib.hid (((Below.refl _ _).alloc (Nat.le_refl _) _).trans (hb2.mono (by simp)))
      have HY2 : Hid (Blk w2 w.heap.size 72 #[.int .u8 0, .string ⟨#[]⟩, .int .i64 0, .int .i64 0, .int .i64 0, .int .i64 0, .int .i64 0]) := (hb2.block _ (by simp)).trans (Blk.new w 72 _)
      clear hb2
      go_wp2_with (refine wpList_store_row rfl 72 _ _ rfl w.heap.size #[.int .u8 0, .string ⟨#[]⟩, .int .i64 0, .int .i64 0, .int .i64 0, .int .i64 (q : Nat), .int .i64 (er : Nat)] rfl rfl 72 _ HY2.out (by kernel_rfl) (by kernel_rfl) (by kernel_rfl) ?_)
      refine bodyPost_ret (results_cell_row rfl _ _ w.heap.size 72 #[.int .u8 0, .string ⟨#[]⟩, .int .i64 0, .int .i64 0, .int .i64 0, .int .i64 (q : Nat), .int .i64 (er : Nat)] (0, 0) _ rfl (setRow_heap _ w.heap.size _ _ 72 _ HY2.out) Tryz.underlying72 rfl (by kernel_rfl)) rfl ⟨by rw [HR.out]; rfl, below_setRow HB2.out (Nat.le_refl _) _⟩
    · have HR2 := Lib.hid hr
      rw [hr] at HR; clear hr
      go_wp2_with fail
      refine (HWO.out _).mono ?_
      intro e w2 hq
      obtain ⟨he, hb2⟩ := hq
      rw [HR2.out] at he
      unfold told toldV at he
      subst he
      have HB2 := Lib.hid (((Below.refl _ _).alloc (Nat.le_refl _) _).trans (hb2.mono (by simp)))
      have HY2 : Hid (Blk w2 w.heap.size 72 #[.int .u8 0, .string ⟨#[]⟩, .int .i64 0, .int .i64 0, .int .i64 0, .int .i64 0, .int .i64 0]) := (hb2.block _ (by simp)).trans (Blk.new w 72 _)
      clear hb2
      go_wp2_with (refine wpList_store_row rfl 72 _ _ rfl w.heap.size #[.int .u8 (t.kind : Nat), .string ⟨t.text.toArray⟩, .int .i64 (t.int : Nat), .int .i64 (t.place : Nat), .int .i64 (e1 : Nat), .int .i64 0, .int .i64 0] rfl rfl 72 _ HY2.out (by kernel_rfl) (by kernel_rfl) (by kernel_rfl) ?_)
      refine bodyPost_ret (results_cell_row rfl _ _ w.heap.size 72 #[.int .u8 (t.kind : Nat), .string ⟨t.text.toArray⟩, .int .i64 (t.int : Nat), .int .i64 (t.place : Nat), .int .i64 (e1 : Nat), .int .i64 0, .int .i64 0] (0, 0) _ rfl (setRow_heap _ w.heap.size _ _ 72 _ HY2.out) Tryz.underlying72 rfl (by kernel_rfl)) rfl ⟨by rw [HR.out]; rfl, below_setRow HB2.out (Nat.le_refl _) _⟩
theorem one_err {s : List UInt8} {i : Nat} {c : UInt8} {q er : Nat} (h : oneL s i c = .inl (q, er)) : er ≠ 0 := by
  unfold oneL at h
  split at h
  · unfold wordL at h
    split at h
    · injection h with h; injection h with _ h; omega
    · cases h
  · split at h
    · unfold numT at h
      split at h
      · cases h
      · rename_i h0; injection h with h; injection h with _ h; rw [← h]; exact h0
    · split at h
      · unfold textT at h
        split at h
        · cases h
        · rename_i h0; injection h with h; injection h with _ h; rw [← h]; exact h0
      · unfold signL at h
        split at h
        · injection h with h; injection h with _ h; omega
        · split at h
          · injection h with h; injection h with _ h; omega
          · split at h
            · split at h <;> cases h
            · injection h with h; injection h with _ h; omega
set_option maxRecDepth 100000 in
set_option maxHeartbeats 8000000 in
theorem refAll_any (s : List UInt8) (hs : s.length ≤ 100000) (w : World) :
    Calls Tryz.prog 22 #[.string ⟨s.toArray⟩] w (AllPost w (srcL s)) := by
  obtain ⟨st, hst⟩ : ∃ st : ByteArray, st = ⟨s.toArray⟩ := ⟨_, rfl⟩
  have hsz : st.size = s.length := by rw [hst]; rfl
  obtain ⟨n, hn⟩ : ∃ n, n = s.length := ⟨_, rfl⟩
  obtain ⟨R, hR⟩ : ∃ R, R = srcL s := ⟨_, rfl⟩
  have HSK := Lib.hid (fun i (hi : i ≤ s.length) W => skip_any s i hs hi W)
  have HON := Lib.hid (fun i c (hc : s[i]? = some c) W => refOne_any s i c hs hc W)
  rw [← hst] at HSK HON ⊢
  rw [← hR]
  rw [← hn] at hsz hs
  have HN := Lib.hid hn
  have HR0 := Lib.hid hR
  clear hst hn hR
  go_enter Tryz.func22, Tryz.ntmps22
  by_cases hlong : 16384 < n
  · have HR : Hid (R = ([], 0, 2)) := by rw [HR0.out]; unfold srcL; rw [if_pos (by rw [← HN.out]; exact hlong)]; exact rfl
    go_wp2_with fail
    go_ret3
    exact ⟨none, 0, by rw [HR.out]; rfl, by rw [HR.out]; exact World.ownsRow_nil _ _ _ _, Below.refl _ _⟩
  · have HR1 : Hid (allL s 0 [] = R) := by rw [HR0.out]; unfold srcL; rw [if_neg (by rw [← HN.out]; exact hlong)]; exact rfl
    go_wp2_with fail
    refine (HSK.out 0 (Nat.zero_le _) _).mono ?_
    rintro e w2 ⟨⟨j0, rfl, hj0⟩, rfl⟩
    have HJ0 := Lib.hid hj0
    clear hj0
    go_wp2_with fail
    go_loopw [5, 6] (fun s5 s6 wr => ∃ (i : Nat) (l : List Tok) (A : Option Addr) (cap : Nat), s6 = .int .i64 i ∧ s5 = .slice A l.length cap ∧ i ≤ n ∧ l.length ≤ i ∧ allL s i l = R ∧ (∀ c, s[i]? = some c → c ≠ 32 ∧ c ≠ 10 ∧ c ≠ 35) ∧ wr.ownsRow w2.heap.size 56 4 (.slice A l.length cap) l.length (tcells l) ∧ Below w2.heap.size w2 wr) (fun _ s6 _ => n - (intOf s6).toNat)
    case atStart => exact ⟨j0, [], none, 0, rfl, rfl, by rw [HN.out]; exact HJ0.out.2.1, by simp, by rw [← HJ0.out.2.2.1]; exact HR1.out, HJ0.out.2.2.2, World.ownsRow_nil _ _ _ _, Below.refl _ _⟩
    case round =>
      obtain ⟨i, l, A, cap, rfl, rfl, hin, hli, hR, hnb, ho, hb⟩ := hrel
      have HB := Lib.hid hb
      obtain ⟨m, hm⟩ : ∃ m, m = l.length := ⟨_, rfl⟩
      rw [← hm] at ho hli ⊢
      have HO := Lib.hid ho
      have HM := Lib.hid hm
      have HSTEP := Lib.hid hR
      have HNB := Lib.hid hnb
      clear hR hb ho hm hnb
      obtain ⟨wo, rfl⟩ : ∃ wo : World, wo = wr := ⟨_, rfl⟩
      by_cases hlt : i < n
      · have hks : i < s.length := by rw [← HN.out]; exact hlt
        obtain ⟨c, hc⟩ : ∃ c, s[i]? = some c := ⟨_, List.getElem?_eq_getElem hks⟩
        have HC := Lib.hid hc
        have HCL := Lib.hid (fun W => HON.out i c hc W)
        have HNX := Lib.hid (fun (t : Tok) (e : Nat) (h : oneL s i c = .inr (t, e)) => oneL_next hc h)
        clear hks hc
        rcases hone : oneL s i c with ⟨q, er⟩ | ⟨t, e1⟩
        · have her := one_err hone
          have HR : Hid (R = ([], q, er)) := by rw [← HSTEP.out]; exact all_bad HC.out (HNB.out c HC.out).1 (HNB.out c HC.out).2.1 (HNB.out c HC.out).2.2 hone l
          have hbe : ((er : Int) != 0) = true := by rw [bne_iff_ne]; omega
          have HONE := Lib.hid hone
          clear her hone
          go_wp2_with fail
          refine (HCL.out _).mono ?_
          intro e w3 hq
          obtain ⟨he, hb3⟩ := hq
          have he2 : e = .returned (.agg #[.int .u8 0, .string ⟨#[]⟩, .int .i64 0, .int .i64 0, .int .i64 0, .int .i64 (q : Nat), .int .i64 (er : Nat)]) := by rw [he, HONE.out]; exact rfl
          clear he
          subst he2
          have HB3 := Lib.hid (HB.out.trans (hb3.mono HB.out.size))
          clear hb3
          go_wp2_with fail
          go_quiet (fail)
          go_wp2_with fail
          go_ret3
          exact ⟨none, 0, by rw [HR.out]; rfl, by rw [HR.out]; exact World.ownsRow_nil _ _ _ _, below_drewN (HB3.out.alloc HB3.out.size _) _⟩
        · have hnx := HNX.out t e1 hone
          obtain ⟨hnx1, hnx2⟩ := hnx
          have HE1 := Lib.hid hnx2
          rw [← HN.out] at hnx2
          have HR2 : Hid (allL s e1 (l ++ [t]) = R) := by rw [← HSTEP.out]; exact (all_tok HC.out (HNB.out c HC.out).1 (HNB.out c HC.out).2.1 (HNB.out c HC.out).2.2 hone l).symm
          have HONE := Lib.hid hone
          clear hone
          obtain ⟨tb, htb⟩ : ∃ b : ByteArray, b = ⟨t.text.toArray⟩ := ⟨_, rfl⟩
          have HTC : Hid (tokCells t = [.int .u8 (t.kind : Nat), .string tb, .int .i64 (t.int : Nat), .int .i64 (t.place : Nat)]) := by rw [htb]; exact rfl
          have HTB := Lib.hid htb
          clear htb
          go_wp2_with fail
          refine (HCL.out _).mono ?_
          intro e w3 hq
          obtain ⟨he, hb3⟩ := hq
          have he2 : e = .returned (.agg #[.int .u8 (t.kind : Nat), .string ⟨t.text.toArray⟩, .int .i64 (t.int : Nat), .int .i64 (t.place : Nat), .int .i64 (e1 : Nat), .int .i64 0, .int .i64 0]) := by rw [he, HONE.out]; exact rfl
          clear he
          rw [← HTB.out] at he2
          subst he2
          have HB3 := Lib.hid (HB.out.trans (hb3.mono HB.out.size))
          have HO3 := Lib.hid (own_below HO.out hb3)
          have HBK : Hid (Blk (w3.alloc (.cells #[.int .u8 (t.kind : Nat), .string tb, .int .i64 (t.int : Nat), .int .i64 (t.place : Nat), .int .i64 (e1 : Nat), .int .i64 0, .int .i64 0] 72)) w3.heap.size 72 #[.int .u8 (t.kind : Nat), .string tb, .int .i64 (t.int : Nat), .int .i64 (t.place : Nat), .int .i64 (e1 : Nat), .int .i64 0, .int .i64 0]) := Blk.new w3 72 _
          clear hb3
          go_wp2_with (at_builtin; refine wpList_app_tok rfl (.tmp 27) (.tmp 30) rfl w2.heap.size (w3.heap.size + 1) m A cap l t rfl ((HO3.out.alloc _).alloc _) rfl (by rw [HTC.out]; exact new2 w3 _ _) (by omega) (by have := HB3.out.size; simp; omega) ?_; intro A3 c3 w4 ho4 hg4; have hcell : w4.cell? ⟨w3.heap.size, 4, none⟩ = some (.int .i64 (e1 : Nat)) := ((HBK.out.alloc _).grown hg4 (fun h => absurd (World.ownsRow.lt HO3.out _ h.symm).2 (Nat.lt_irrefl _))).cell 4; have HO4 := Lib.hid ho4; have HG4 := Lib.hid hg4; clear ho4 hg4)
          refine (HSK.out e1 HE1.out w4).mono ?_
          rintro e w5 ⟨⟨j, rfl, hj⟩, hw5⟩
          rw [hw5]
          clear hw5 w5
          have HJ := Lib.hid hj
          have hj1 := hj.1
          have hj2 := hj.2.1
          rw [← HN.out] at hj2
          clear hj
          go_wp2_with fail
          go_roundw
          case rel => exact ⟨j, l ++ [t], A3, c3, rfl, by rw [List.length_append, ← HM.out]; rfl, hj2, by rw [List.length_append, ← HM.out]; simp; omega, by rw [← HJ.out.2.2.1]; exact HR2.out, HJ.out.2.2.2, by rw [List.length_append, ← HM.out]; exact HO4.out, ((HB3.out.alloc HB3.out.size _).alloc (by have := HB3.out.size; simp; omega) _).grown HG4.out (by have := HB3.out.size; simp; omega) (fun g hg => (World.ownsRow.lt HO.out g hg).1)⟩
          case measure => simp [intOf]; omega
      · have HR : Hid (R = (l, 0, 0)) := by rw [← HSTEP.out]; exact all_end (by rw [← HN.out]; omega)
        go_wp2_with fail
        go_ret3
        exact ⟨A, cap, by rw [HR.out, HM.out]; rfl, by rw [HR.out, ← HM.out]; exact HO.out, HB.out⟩
end Go.Proofs.YtbcadlocldplfaaGreat
