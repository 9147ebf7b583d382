/- Contract of the document's text. -/
import Derived.Laws.CopyOwn
import Derived.OneCell
import Derived.Test.YtlfkiaphmifelaaTxt
import Derived.Test.YtlfkiaphmifelaaEsc
namespace Go.Proofs.Ytlfkiaphmifelaa
open Go.RowKit

theorem esc_err {s : List UInt8} {k q e : Nat} (h : escL s k = .inl (q, e)) : e ≠ 0 := by
  unfold escL at h
  split at h
  · injection h with h; injection h with _ h2; omega
  · split at h
    · cases h
    · split at h
      · cases h
      · split at h
        · unfold hex2 at h
          split at h
          · injection h with h; injection h with _ h2; omega
          · split at h
            · injection h with h; injection h with _ h2; omega
            · split at h
              · injection h with h; injection h with _ h2; omega
              · split at h
                · injection h with h; injection h with _ h2; omega
                · cases h
        · injection h with h; injection h with _ h2; omega
/-- How far a text's character goes. -/
theorem esc_le {s : List UInt8} {k x nx : Nat} (h : escL s k = .inr (x, nx)) : nx ≤ s.length := by
  unfold escL at h
  split at h
  · cases h
  · rename_i c hc
    have hk : k < s.length := (List.getElem?_eq_some_iff.1 hc).1
    split at h
    · injection h with h; injection h with h1 h2; omega
    · split at h
      · injection h with h; injection h with h1 h2; omega
      · split at h
        · unfold hex2 at h
          split at h
          · cases h
          · split at h
            · cases h
            · split at h
              · cases h
              · rename_i b hb
                have hk2 : k + 1 + 1 < s.length := (List.getElem?_eq_some_iff.1 hb).1
                split at h
                · cases h
                · injection h with h; injection h with h1 h2; omega
        · cases h

set_option maxRecDepth 100000 in
set_option maxHeartbeats 8000000 in
theorem refText_any (s : List UInt8) (i : Nat) (hs : s.length ≤ 100000) (hi : i < s.length) (w : World) :
    Calls Try.prog 27 #[.string ⟨s.toArray⟩, .int .i64 (i : Nat)] w (ToldPost w (textT s i)) := by
  obtain ⟨i0, hi0, hz0, hz1, hz2⟩ := info_parts Try.info5
  have HI := Lib.hid (And.intro hi0 (And.intro hz0 (And.intro hz1 hz2)))
  clear hi0 hz0 hz1 hz2
  obtain ⟨st, hst⟩ : ∃ st : ByteArray, st = ⟨s.toArray⟩ := ⟨_, rfl⟩
  have hsz : st.size = s.length := by rw [hst]; rfl
  obtain ⟨n, hn⟩ : ∃ n, n = s.length := ⟨_, rfl⟩
  obtain ⟨R, hR⟩ : ∃ R, R = textL s i (i + 1) [] := ⟨_, rfl⟩
  have HTT : Hid (textT s i = if R.2.2.2 = 0 then .inr (⟨3, R.1, 0, i⟩, R.2.1) else .inl (R.2.2.1, R.2.2.2)) := by unfold textT; rw [hR]; exact rfl
  have HESC := Lib.hid (fun k W => escape_any s k hs W)
  rw [← hst] at HESC ⊢
  rw [← hn] at hsz hs hi
  have HST := Lib.hid hst
  have HN := Lib.hid hn
  have HR0 := Lib.hid hR
  clear hst hn hR
  go_enter Try.func27, Try.ntmps27
  go_wp2_with fail
  go_loopw [5, 6] (fun s8 s9 wr => ∃ (k : Nat) (b : List UInt8) (A : Option Addr) (cap : Nat), s9 = .int .i64 k ∧ s8 = .slice A b.length cap ∧ i < k ∧ k ≤ n ∧ b.length ≤ 4095 ∧ textL s i k b = R ∧ wr.ownsRow (w.heap.size + 1) 5 1 (.slice A b.length cap) b.length (bcells b) ∧ Below w.heap.size w wr ∧ Blk wr w.heap.size 43 #[.int .u8 0, .string ⟨#[]⟩, .int .i64 0, .int .i64 0, .int .i64 0, .int .i64 0, .int .i64 0]) (fun _ s9 _ => n - (intOf s9).toNat)
  case atStart => exact ⟨i + 1, [], none, 0, by go_num, rfl, by omega, by omega, by simp, HR0.out.symm, World.ownsRow_nil _ _ _ _, (Below.refl _ _).alloc (Nat.le_refl _) _, Blk.new w 43 _⟩
  case round =>
    obtain ⟨k, b, A, cap, rfl, rfl, hik, hkn, hbl, hR, ho, hb, hy⟩ := hrel
    have HB := Lib.hid hb
    have HBW := Lib.hid hb
    have HY := Lib.hid hy
    have hszr : w.heap.size < wr.heap.size := hy.lt
    obtain ⟨m, hm⟩ : ∃ m, m = b.length := ⟨_, rfl⟩
    rw [← hm] at ho hbl ⊢
    have HO := Lib.hid ho
    have HM := Lib.hid hm
    have HSTEP := Lib.hid (hR.symm.trans (textL_step s i k b))
    clear hR hb ho hm hy
    by_cases hlt : k < n
    · have hks : k < s.length := by rw [← HN.out]; exact hlt
      obtain ⟨ch, hch⟩ : ∃ c, c = s[k] := ⟨_, rfl⟩
      have hkst : k < st.size := by omega
      have hg : st[k] = ch := by rw [hch]; exact st_get HST.out hkst hks
      have hch2 : s[k]? = some ch := by rw [hch]; exact List.getElem?_eq_getElem hks
      have HS1 := Lib.hid (show R = if ch = 34 then (b, k + 1, 0, 0) else if ch.toNat < 32 ∨ 126 < ch.toNat then ([], 0, k, 9) else
          match charL s ch k with
          | .inl (q, e) => ([], 0, q, e)
          | .inr (x, nx) => if b.length = 4095 then ([], 0, i, 2) else textL s i nx (b ++ [UInt8.ofNat x]) by have h := HSTEP.out; rw [hch2] at h; exact h)
      clear hch hch2 hks HSTEP
      have hcl : ch.toNat < 256 := UInt8.toNat_lt _
      have HE : Hid (∀ q : UInt8, ch = q ↔ ch.toNat = q.toNat) := fun q => ⟨fun h => by rw [h], fun h => UInt8.toNat_inj.1 h⟩
      obtain ⟨cv, hcv⟩ : ∃ v, v = ch.toNat := ⟨_, rfl⟩
      have hg2 : st[k].toNat = cv := by rw [hg, hcv]
      have HCV := Lib.hid hcv
      rw [← hcv] at hcl
      clear hg hcv
      by_cases h34 : cv = 34
      · have HR : Hid (textT s i = .inr (⟨3, b, 0, i⟩, k + 1)) := by
          have hR2 : R = (b, k + 1, 0, 0) := by rw [HS1.out, if_pos ((HE.out 34).2 (HCV.out.symm.trans h34))]
          rw [HTT.out, hR2]; exact rfl
        have hstr := run_str_own (P := Try.prog) wr 46 9 5 (w.heap.size + 1) (.slice A m cap) m b Try.underlying46 Try.underlying5 Try.underlying9 HM.out.symm HO.out
        have hb34 : ((cv : Int) != 34) = false := by rw [h34]; rfl
        clear h34
        go_wp2_with (refine wpList_store_row rfl 43 _ _ rfl w.heap.size #[.int .u8 3, .string ⟨b.toArray⟩, .int .i64 0, .int .i64 (i : Nat), .int .i64 ((k : Int) + 1), .int .i64 0, .int .i64 0] rfl rfl 43 _ HY.out (by kernel_rfl) (by kernel_rfl) (by kernel_rfl) ?_)
        refine bodyPost_ret (results_cell_row rfl _ _ w.heap.size 43 #[.int .u8 3, .string ⟨b.toArray⟩, .int .i64 0, .int .i64 (i : Nat), .int .i64 ((k : Int) + 1), .int .i64 0, .int .i64 0] (0, 0) _ rfl (setRow_heap _ w.heap.size _ _ 43 _ HY.out) Try.underlying43 rfl (by kernel_rfl)) rfl ⟨by rw [HR.out]; rfl, below_setRow HBW.out (Nat.le_refl _) _⟩
      · have hb34 : ((cv : Int) != 34) = true := by rw [bne_iff_ne]; omega
        have HS2 : Hid (R = if ch.toNat < 32 ∨ 126 < ch.toNat then ([], 0, k, 9) else
            match charL s ch k with
            | .inl (q, e) => ([], 0, q, e)
            | .inr (x, nx) => if b.length = 4095 then ([], 0, i, 2) else textL s i nx (b ++ [UInt8.ofNat x])) := by rw [HS1.out, if_neg (fun h => h34 (HCV.out.trans ((HE.out 34).1 h)))]; exact rfl
        clear h34 HS1
        by_cases hlo : cv < 32
        · have HR : Hid (textT s i = .inl (k, 9)) := by
            have hR2 : R = ([], 0, k, 9) := by rw [HS2.out, if_pos (by rw [← HCV.out]; omega)]
            rw [HTT.out, hR2]; exact rfl
          go_wp2_with fail
          refine (wrong_any (k) 9 wr).mono ?_
          rintro e w2 ⟨rfl, hb2⟩
          unfold told toldV
          have HB2 := Lib.hid (HBW.out.trans (hb2.mono HBW.out.size))
          have HY2 : Hid (Blk w2 w.heap.size 43 #[.int .u8 0, .string ⟨#[]⟩, .int .i64 0, .int .i64 0, .int .i64 0, .int .i64 0, .int .i64 0]) := (hb2.block _ hszr).trans HY.out
          clear hb2
          go_wp2_with (refine wpList_store_row rfl 43 _ _ rfl w.heap.size #[.int .u8 0, .string ⟨#[]⟩, .int .i64 0, .int .i64 0, .int .i64 0, .int .i64 (k : Nat), .int .i64 9] rfl rfl 43 _ HY2.out (by kernel_rfl) (by kernel_rfl) (by kernel_rfl) ?_)
          refine bodyPost_ret (results_cell_row rfl _ _ w.heap.size 43 #[.int .u8 0, .string ⟨#[]⟩, .int .i64 0, .int .i64 0, .int .i64 0, .int .i64 (k : Nat), .int .i64 9] (0, 0) _ rfl (setRow_heap _ w.heap.size _ _ 43 _ HY2.out) Try.underlying43 rfl (by kernel_rfl)) rfl ⟨by rw [HR.out]; rfl, below_setRow HB2.out (Nat.le_refl _) _⟩
        · by_cases hup : 126 < cv
          · have HR : Hid (textT s i = .inl (k, 9)) := by
              have hR2 : R = ([], 0, k, 9) := by rw [HS2.out, if_pos (by rw [← HCV.out]; omega)]
              rw [HTT.out, hR2]; exact rfl
            go_wp2_with fail
            refine (wrong_any (k) 9 wr).mono ?_
            rintro e w2 ⟨rfl, hb2⟩
            unfold told toldV
            have HB2 := Lib.hid (HBW.out.trans (hb2.mono HBW.out.size))
            have HY2 : Hid (Blk w2 w.heap.size 43 #[.int .u8 0, .string ⟨#[]⟩, .int .i64 0, .int .i64 0, .int .i64 0, .int .i64 0, .int .i64 0]) := (hb2.block _ hszr).trans HY.out
            clear hb2
            go_wp2_with (refine wpList_store_row rfl 43 _ _ rfl w.heap.size #[.int .u8 0, .string ⟨#[]⟩, .int .i64 0, .int .i64 0, .int .i64 0, .int .i64 (k : Nat), .int .i64 9] rfl rfl 43 _ HY2.out (by kernel_rfl) (by kernel_rfl) (by kernel_rfl) ?_)
            refine bodyPost_ret (results_cell_row rfl _ _ w.heap.size 43 #[.int .u8 0, .string ⟨#[]⟩, .int .i64 0, .int .i64 0, .int .i64 0, .int .i64 (k : Nat), .int .i64 9] (0, 0) _ rfl (setRow_heap _ w.heap.size _ _ 43 _ HY2.out) Try.underlying43 rfl (by kernel_rfl)) rfl ⟨by rw [HR.out]; rfl, below_setRow HB2.out (Nat.le_refl _) _⟩
          · have HS3 : Hid (R = match charL s ch k with
                | .inl (q, e) => ([], 0, q, e)
                | .inr (x, nx) => if b.length = 4095 then ([], 0, i, 2) else textL s i nx (b ++ [UInt8.ofNat x])) := by rw [HS2.out, if_neg (by rw [← HCV.out]; omega)]; exact rfl
            clear HS2
            by_cases h92 : cv = 92
            · have hb92 : ((cv : Int) == 92) = true := by rw [h92]; rfl
              have HS5 : Hid (R = match escL s (k + 1) with
                | .inl (q, e) => ([], 0, q, e)
                | .inr (x, nx) => if b.length = 4095 then ([], 0, i, 2) else textL s i nx (b ++ [UInt8.ofNat x])) := by
                have h := HS3.out
                unfold charL at h
                rw [if_pos ((HE.out 92).2 (HCV.out.symm.trans h92))] at h
                exact h
              clear HS3 h92
              have HEK := Lib.hid (HESC.out (k + 1) wr)
              rcases hes : escL s (k + 1) with ⟨q, er⟩ | ⟨x, nx⟩
              · have her := esc_err hes
                have HR : Hid (textT s i = .inl (q, er)) := by
                  have hR2 : R = ([], 0, q, er) := by rw [HS5.out, hes]
                  rw [HTT.out, hR2]; exact if_neg her
                have hbe : ((er : Int) != 0) = true := by rw [bne_iff_ne]; omega
                rw [hes] at HEK
                unfold escR EscPost at HEK
                clear hes her
                dsimp only at HEK
                go_wp2_with fail
                refine HEK.out.mono ?_
                rintro e w2 ⟨rfl, hw2⟩
                rw [hw2]
                clear hw2 w2
                go_wp2_with fail
                refine (wrong_any (q) (er) wr).mono ?_
                rintro e w2 ⟨rfl, hb2⟩
                unfold told toldV
                have HB2 := Lib.hid (HBW.out.trans (hb2.mono HBW.out.size))
                have HY2 : Hid (Blk w2 w.heap.size 43 #[.int .u8 0, .string ⟨#[]⟩, .int .i64 0, .int .i64 0, .int .i64 0, .int .i64 0, .int .i64 0]) := (hb2.block _ hszr).trans HY.out
                clear hb2
                go_wp2_with (refine wpList_store_row rfl 43 _ _ rfl w.heap.size #[.int .u8 0, .string ⟨#[]⟩, .int .i64 0, .int .i64 0, .int .i64 0, .int .i64 (q : Nat), .int .i64 (er : Nat)] rfl rfl 43 _ HY2.out (by kernel_rfl) (by kernel_rfl) (by kernel_rfl) ?_)
                refine bodyPost_ret (results_cell_row rfl _ _ w.heap.size 43 #[.int .u8 0, .string ⟨#[]⟩, .int .i64 0, .int .i64 0, .int .i64 0, .int .i64 (q : Nat), .int .i64 (er : Nat)] (0, 0) _ rfl (setRow_heap _ w.heap.size _ _ 43 _ HY2.out) Try.underlying43 rfl (by kernel_rfl)) rfl ⟨by rw [HR.out]; rfl, below_setRow HB2.out (Nat.le_refl _) _⟩
              · have hnx : k < nx ∧ x < 256 := charL_next (c := 92) (show charL s 92 k = .inr (x, nx) by unfold charL; rw [if_pos rfl]; exact hes)
                obtain ⟨hnx1, hx256⟩ := hnx
                have hnxn : nx ≤ n := by rw [HN.out]; exact esc_le hes
                have HS4 : Hid (R = if b.length = 4095 then ([], 0, i, 2) else textL s i nx (b ++ [UInt8.ofNat x])) := by have h := HS5.out; rw [hes] at h; exact h
                rw [hes] at HEK
                unfold escR EscPost at HEK
                clear hes HS5
                dsimp only at HEK
                by_cases hmx : m = 4095
                · have HR : Hid (textT s i = .inl (i, 2)) := by
                    have hR2 : R = ([], 0, i, 2) := by rw [HS4.out, if_pos (HM.out.symm.trans hmx)]
                    rw [HTT.out, hR2]; exact rfl
                  have hbm : ((m : Int) == 4095) = true := by rw [hmx]; rfl
                  clear hmx
                  go_wp2_with fail
                  refine HEK.out.mono ?_
                  rintro e w2 ⟨rfl, hw2⟩
                  rw [hw2]
                  clear hw2 w2
                  go_wp2_with fail
                  refine (wrong_any (i) 2 wr).mono ?_
                  rintro e w2 ⟨rfl, hb2⟩
                  unfold told toldV
                  have HB2 := Lib.hid (HBW.out.trans (hb2.mono HBW.out.size))
                  have HY2 : Hid (Blk w2 w.heap.size 43 #[.int .u8 0, .string ⟨#[]⟩, .int .i64 0, .int .i64 0, .int .i64 0, .int .i64 0, .int .i64 0]) := (hb2.block _ hszr).trans HY.out
                  clear hb2
                  go_wp2_with (refine wpList_store_row rfl 43 _ _ rfl w.heap.size #[.int .u8 0, .string ⟨#[]⟩, .int .i64 0, .int .i64 0, .int .i64 0, .int .i64 (i : Nat), .int .i64 2] rfl rfl 43 _ HY2.out (by kernel_rfl) (by kernel_rfl) (by kernel_rfl) ?_)
                  refine bodyPost_ret (results_cell_row rfl _ _ w.heap.size 43 #[.int .u8 0, .string ⟨#[]⟩, .int .i64 0, .int .i64 0, .int .i64 0, .int .i64 (i : Nat), .int .i64 2] (0, 0) _ rfl (setRow_heap _ w.heap.size _ _ 43 _ HY2.out) Try.underlying43 rfl (by kernel_rfl)) rfl ⟨by rw [HR.out]; rfl, below_setRow HB2.out (Nat.le_refl _) _⟩
                · have HR2 : Hid (R = textL s i nx (b ++ [UInt8.ofNat x])) := by rw [HS4.out, if_neg (fun h => hmx (HM.out.trans h))]; exact rfl
                  have hbm : ((m : Int) == 4095) = false := by rw [beq_eq_false_iff_ne]; omega
                  have HX2 : Hid (bcells (b ++ [UInt8.ofNat x]) = bcells b ++ [.int .u8 (x : Nat)]) := by rw [bcells_append]; exact congrArg (fun z => bcells b ++ [Value.int .u8 ((z : Nat) : Int)]) (by first | rfl | (rw [UInt8.toNat_ofNat']; exact Nat.mod_eq_of_lt (by omega)))
                  obtain ⟨hi0, hz0, hz1, hz2⟩ := HI.out
                  go_wp2_with fail
                  refine HEK.out.mono ?_
                  rintro e w2 ⟨rfl, hw2⟩
                  rw [hw2]
                  clear hw2 w2
                  go_wp2_with (at_builtin; refine wpList_append_own _ rfl (.tmp 61) (.tmp 63) 46 rfl (w.heap.size + 1) 5 i0 (.int .u8 0) 1 1 Try.underlying46 hi0 hz0 hz1 hz2 rfl (by decide) (.slice A m cap) m (bcells b) rfl (HO.out.alloc _) ⟨wr.heap.size, 0, none⟩ 1 1 [.int .u8 (x : Nat)] rfl rfl (cell_one_new _ _ _) (by intro u hu; rw [List.mem_singleton] at hu; subst hu; rfl) (by unfold maxLen; omega) (by omega) (by simp; omega) ?_; intro v3 w3 ho3 hg3 _; obtain ⟨A3, c3, rfl, _⟩ := own_form ho3; have HO3 := Lib.hid ho3; have HG3 := Lib.hid hg3; clear ho3 hg3)
                  have HL := Lib.hid (show (b ++ [UInt8.ofNat x]).length = m + 1 by rw [List.length_append, ← HM.out]; rfl)
                  go_wp2_with fail
                  go_roundw
                  case rel =>
                    refine ⟨nx, b ++ [UInt8.ofNat x], A3, c3, by go_num, by rw [HL.out], by omega, by omega, by rw [HL.out]; omega, HR2.out.symm, by rw [HL.out, HX2.out]; exact HO3.out, ?_, ?_⟩
                    · exact (HB.out.alloc HB.out.size _).grown HG3.out (by have := HB.out.size; simp; omega) (fun g hg => by have := (World.ownsRow.lt HO.out g hg).1; omega)
                    · exact (HY.out.alloc _).grown HG3.out (fun h => by have := (World.ownsRow.lt HO.out _ h.symm).1; omega)
                  case measure => simp [intOf]; omega
            · have hb92 : ((cv : Int) == 92) = false := by rw [beq_eq_false_iff_ne]; omega
              have HS4 : Hid (R = if b.length = 4095 then ([], 0, i, 2) else textL s i (k + 1) (b ++ [UInt8.ofNat cv])) := by
                have h := HS3.out
                unfold charL at h
                rw [if_neg (fun h => h92 (HCV.out.trans ((HE.out 92).1 h))), ← HCV.out] at h
                exact h
              clear HS3 h92
              by_cases hmx : m = 4095
              · have HR : Hid (textT s i = .inl (i, 2)) := by
                  have hR2 : R = ([], 0, i, 2) := by rw [HS4.out, if_pos (HM.out.symm.trans hmx)]
                  rw [HTT.out, hR2]; exact rfl
                have hbm : ((m : Int) == 4095) = true := by rw [hmx]; rfl
                clear hmx
                go_wp2_with fail
                refine (wrong_any (i) 2 wr).mono ?_
                rintro e w2 ⟨rfl, hb2⟩
                unfold told toldV
                have HB2 := Lib.hid (HBW.out.trans (hb2.mono HBW.out.size))
                have HY2 : Hid (Blk w2 w.heap.size 43 #[.int .u8 0, .string ⟨#[]⟩, .int .i64 0, .int .i64 0, .int .i64 0, .int .i64 0, .int .i64 0]) := (hb2.block _ hszr).trans HY.out
                clear hb2
                go_wp2_with (refine wpList_store_row rfl 43 _ _ rfl w.heap.size #[.int .u8 0, .string ⟨#[]⟩, .int .i64 0, .int .i64 0, .int .i64 0, .int .i64 (i : Nat), .int .i64 2] rfl rfl 43 _ HY2.out (by kernel_rfl) (by kernel_rfl) (by kernel_rfl) ?_)
                refine bodyPost_ret (results_cell_row rfl _ _ w.heap.size 43 #[.int .u8 0, .string ⟨#[]⟩, .int .i64 0, .int .i64 0, .int .i64 0, .int .i64 (i : Nat), .int .i64 2] (0, 0) _ rfl (setRow_heap _ w.heap.size _ _ 43 _ HY2.out) Try.underlying43 rfl (by kernel_rfl)) rfl ⟨by rw [HR.out]; rfl, below_setRow HB2.out (Nat.le_refl _) _⟩
              · have HR2 : Hid (R = textL s i (k + 1) (b ++ [UInt8.ofNat cv])) := by rw [HS4.out, if_neg (fun h => hmx (HM.out.trans h))]; exact rfl
                have hbm : ((m : Int) == 4095) = false := by rw [beq_eq_false_iff_ne]; omega
                have HX2 : Hid (bcells (b ++ [UInt8.ofNat cv]) = bcells b ++ [.int .u8 (cv : Nat)]) := by rw [bcells_append]; exact congrArg (fun z => bcells b ++ [Value.int .u8 ((z : Nat) : Int)]) (by first | rfl | (rw [UInt8.toNat_ofNat']; exact Nat.mod_eq_of_lt (by omega)))
                obtain ⟨hi0, hz0, hz1, hz2⟩ := HI.out
                go_wp2_with (at_builtin; refine wpList_append_own _ rfl (.tmp 61) (.tmp 63) 46 rfl (w.heap.size + 1) 5 i0 (.int .u8 0) 1 1 Try.underlying46 hi0 hz0 hz1 hz2 rfl (by decide) (.slice A m cap) m (bcells b) rfl (HO.out.alloc _) ⟨wr.heap.size, 0, none⟩ 1 1 [.int .u8 (cv : Nat)] rfl rfl (cell_one_new _ _ _) (by intro u hu; rw [List.mem_singleton] at hu; subst hu; rfl) (by unfold maxLen; omega) (by omega) (by simp; omega) ?_; intro v3 w3 ho3 hg3 _; obtain ⟨A3, c3, rfl, _⟩ := own_form ho3; have HO3 := Lib.hid ho3; have HG3 := Lib.hid hg3; clear ho3 hg3)
                have HL := Lib.hid (show (b ++ [UInt8.ofNat cv]).length = m + 1 by rw [List.length_append, ← HM.out]; rfl)
                go_wp2_with fail
                go_roundw
                case rel =>
                  refine ⟨(k + 1), b ++ [UInt8.ofNat cv], A3, c3, by go_num, by rw [HL.out], by omega, by omega, by rw [HL.out]; omega, HR2.out.symm, by rw [HL.out, HX2.out]; exact HO3.out, ?_, ?_⟩
                  · exact (HB.out.alloc HB.out.size _).grown HG3.out (by have := HB.out.size; simp; omega) (fun g hg => by have := (World.ownsRow.lt HO.out g hg).1; omega)
                  · exact (HY.out.alloc _).grown HG3.out (fun h => by have := (World.ownsRow.lt HO.out _ h.symm).1; omega)
                case measure => simp [intOf]; omega
    · have HR : Hid (textT s i = .inl (n, 4)) := by
        have h := HSTEP.out
        rw [List.getElem?_eq_none (by rw [← HN.out]; omega)] at h
        rw [HTT.out, h, HN.out]; exact rfl
      go_wp2_with fail
      refine (wrong_any (n) 4 wr).mono ?_
      rintro e w2 ⟨rfl, hb2⟩
      unfold told toldV
      have HB2 := Lib.hid (HBW.out.trans (hb2.mono HBW.out.size))
      have HY2 : Hid (Blk w2 w.heap.size 43 #[.int .u8 0, .string ⟨#[]⟩, .int .i64 0, .int .i64 0, .int .i64 0, .int .i64 0, .int .i64 0]) := (hb2.block _ hszr).trans HY.out
      clear hb2
      go_wp2_with (refine wpList_store_row rfl 43 _ _ rfl w.heap.size #[.int .u8 0, .string ⟨#[]⟩, .int .i64 0, .int .i64 0, .int .i64 0, .int .i64 (n : Nat), .int .i64 4] rfl rfl 43 _ HY2.out (by kernel_rfl) (by kernel_rfl) (by kernel_rfl) ?_)
      refine bodyPost_ret (results_cell_row rfl _ _ w.heap.size 43 #[.int .u8 0, .string ⟨#[]⟩, .int .i64 0, .int .i64 0, .int .i64 0, .int .i64 (n : Nat), .int .i64 4] (0, 0) _ rfl (setRow_heap _ w.heap.size _ _ 43 _ HY2.out) Try.underlying43 rfl (by kernel_rfl)) rfl ⟨by rw [HR.out]; rfl, below_setRow HB2.out (Nat.le_refl _) _⟩
end Go.Proofs.Ytlfkiaphmifelaa
