/- Contract of the document's text. And what follows from it. -/
import Derived.Laws.CopyOwn
import Derived.OneCell
import Derived.WalkLawsBesides
import Derived.Test.YtbcadlocldplfaaGreatMah
import Derived.Test.YtbcadlocldplfaaGreatMai
set_option linter.unusedSimpArgs false
set_option linter.unusedVariables false
namespace Go.Proofs.YtbcadlocldplfaaGreat
set_option maxRecDepth 100000
open Go.RowKit
theorem esc_err {s : List UInt8} {k q e : Nat} (h : escL s k = .inl (q, e)) : e ≠ 0 := by
  unfold escL at h
  split at h
  · injection h with h; injection h with _ h2; omega
  · split at h
    · cases h
    · split at h
      · cases h
      · split at h
        · unfold hex2 at h
          split at h
          · injection h with h; injection h with _ h2; omega
          · split at h
            · injection h with h; injection h with _ h2; omega
            · split at h
              · injection h with h; injection h with _ h2; omega
              · split at h
                · injection h with h; injection h with _ h2; omega
                · cases h
        · injection h with h; injection h with _ h2; omega
theorem esc_le {s : List UInt8} {k x nx : Nat} (h : escL s k = .inr (x, nx)) : nx ≤ s.length := by
  unfold escL at h
  split at h
  · cases h
  · rename_i c hc
    have hk : k < s.length := (List.getElem?_eq_some_iff.1 hc).1
    split at h
    · injection h with h; injection h with h1 h2; omega
    · split at h
      · injection h with h; injection h with h1 h2; omega
      · split at h
        · unfold hex2 at h
          split at h
          · cases h
          · split at h
            · cases h
            · split at h
              · cases h
              · rename_i b hb
                have hk2 : k + 1 + 1 < s.length := (List.getElem?_eq_some_iff.1 hb).1
                split at h
                · cases h
                · injection h with h; injection h with h1 h2; omega
        · cases h
set_option maxRecDepth 100000 in
set_option maxHeartbeats 8000000 in
theorem refText_any (s : List UInt8) (i : Nat) (hs : s.length ≤ 100000) (hi : i < s.length) (w : World) :
    Calls Tryz.prog 68 #[.string ⟨s.toArray⟩, .int .i64 (i : Nat)] w (ToldPost w (textT s i)) := by
  obtain ⟨i0, hi0, hz0, hz1, hz2⟩ := info_parts Tryz.info5
  have HI := Lib.hid (And.intro hi0 (And.intro hz0 (And.intro hz1 hz2)))
  clear hi0 hz0 hz1 hz2
  obtain ⟨st, hst⟩ : ∃ st : ByteArray, st = ⟨s.toArray⟩ := ⟨_, rfl⟩
  have hsz : st.size = s.length := by rw [hst]; rfl
  obtain ⟨n, hn⟩ : ∃ n, n = s.length := ⟨_, rfl⟩
  obtain ⟨R, hR⟩ : ∃ R, R = textL s i (i + 1) [] := ⟨_, rfl⟩
  have HTT : Hid (textT s i = if R.2.2.2 = 0 then .inr (⟨3, R.1, 0, i⟩, R.2.1) else .inl (R.2.2.1, R.2.2.2)) := by unfold textT; rw [hR]; exact rfl
  have HESC := Lib.hid (fun k W => escape_any s k hs W)
  rw [← hst] at HESC ⊢
  rw [← hn] at hsz hs hi
  have HST := Lib.hid hst
  have HN := Lib.hid hn
  have HR0 := Lib.hid hR
  clear hst hn hR
  go_enter Tryz.func68, Tryz.ntmps68
  go_wp2_with fail
  go_loopw [5, 6] (fun s8 s9 wr => ∃ (k : Nat) (b : List UInt8) (A : Option Addr) (cap : Nat), s9 = .int .i64 k ∧ s8 = .slice A b.length cap ∧ i < k ∧ k ≤ n ∧ b.length ≤ 4095 ∧ textL s i k b = R ∧ wr.ownsRow (w.heap.size + 1) 5 1 (.slice A b.length cap) b.length (bcells b) ∧ Below w.heap.size w wr ∧ Blk wr w.heap.size 72 #[.int .u8 0, .string ⟨#[]⟩, .int .i64 0, .int .i64 0, .int .i64 0, .int .i64 0, .int .i64 0]) (fun _ s9 _ => n - (intOf s9).toNat)
  case atStart => exact ⟨i + 1, [], none, 0, by go_num, rfl, by omega, by omega, by simp, HR0.out.symm, World.ownsRow_nil _ _ _ _, (Below.refl _ _).alloc (Nat.le_refl _) _, Blk.new w 72 _⟩
  case round =>
    obtain ⟨k, b, A, cap, rfl, rfl, hik, hkn, hbl, hR, ho, hb, hy⟩ := hrel
    have HB := Lib.hid hb
    have HBW := Lib.hid hb
    have HY := Lib.hid hy
    have hszr : w.heap.size < wr.heap.size := hy.lt
    obtain ⟨m, hm⟩ : ∃ m, m = b.length := ⟨_, rfl⟩
    rw [← hm] at ho hbl ⊢
    have HO := Lib.hid ho
    have HM := Lib.hid hm
    have HSTEP := Lib.hid (hR.symm.trans (textL_step s i k b))
    clear hR hb ho hm hy
    by_cases hlt : k < n
    · have hks : k < s.length := by rw [← HN.out]; exact hlt
      obtain ⟨ch, hch⟩ : ∃ c, c = s[k] := ⟨_, rfl⟩
      have hkst : k < st.size := by omega
      have hg : st[k] = ch := by rw [hch]; exact st_get HST.out hkst hks
      have hch2 : s[k]? = some ch := by rw [hch]; exact List.getElem?_eq_getElem hks
      have HS1 := Lib.hid (show R = if ch = 34 then (b, k + 1, 0, 0) else if ch.toNat < 32 ∨ 126 < ch.toNat then ([], 0, k, 9) else
          match charL s ch k with
          | .inl (q, e) => ([], 0, q, e)
          | .inr (x, nx) => if b.length = 4095 then ([], 0, i, 2) else textL s i nx (b ++ [UInt8.ofNat x]) by have h := HSTEP.out; rw [hch2] at h; exact h)
      clear hch hch2 hks HSTEP
      have hcl : ch.toNat < 256 := UInt8.toNat_lt _
      have HE : Hid (∀ q : UInt8, ch = q ↔ ch.toNat = q.toNat) := fun q => ⟨fun h => by rw [h], fun h => UInt8.toNat_inj.1 h⟩
      obtain ⟨cv, hcv⟩ : ∃ v, v = ch.toNat := ⟨_, rfl⟩
      have hg2 : st[k].toNat = cv := by rw [hg, hcv]
      have HCV := Lib.hid hcv
      rw [← hcv] at hcl
      clear hg hcv
      by_cases h34 : cv = 34
      · have HR : Hid (textT s i = .inr (⟨3, b, 0, i⟩, k + 1)) := by
          have hR2 : R = (b, k + 1, 0, 0) := by rw [HS1.out, if_pos ((HE.out 34).2 (HCV.out.symm.trans h34))]
          rw [HTT.out, hR2]; exact rfl
        have hstr := run_str_own (P := Tryz.prog) wr 83 9 5 (w.heap.size + 1) (.slice A m cap) m b Tryz.underlying83 Tryz.underlying5 Tryz.underlying9 HM.out.symm HO.out
        have hb34 : ((cv : Int) != 34) = false := by rw [h34]; rfl
        clear h34
        go_wp2_with (refine wpList_store_row rfl 72 _ _ rfl w.heap.size #[.int .u8 3, .string ⟨b.toArray⟩, .int .i64 0, .int .i64 (i : Nat), .int .i64 ((k : Int) + 1), .int .i64 0, .int .i64 0] rfl rfl 72 _ HY.out (by kernel_rfl) (by kernel_rfl) (by kernel_rfl) ?_)
        refine bodyPost_ret (results_cell_row rfl _ _ w.heap.size 72 #[.int .u8 3, .string ⟨b.toArray⟩, .int .i64 0, .int .i64 (i : Nat), .int .i64 ((k : Int) + 1), .int .i64 0, .int .i64 0] (0, 0) _ rfl (setRow_heap _ w.heap.size _ _ 72 _ HY.out) Tryz.underlying72 rfl (by kernel_rfl)) rfl ⟨by rw [HR.out]; rfl, below_setRow HBW.out (Nat.le_refl _) _⟩
      · have hb34 : ((cv : Int) != 34) = true := by rw [bne_iff_ne]; omega
        have HS2 : Hid (R = if ch.toNat < 32 ∨ 126 < ch.toNat then ([], 0, k, 9) else
            match charL s ch k with
            | .inl (q, e) => ([], 0, q, e)
            | .inr (x, nx) => if b.length = 4095 then ([], 0, i, 2) else textL s i nx (b ++ [UInt8.ofNat x])) := by rw [HS1.out, if_neg (fun h => h34 (HCV.out.trans ((HE.out 34).1 h)))]; exact rfl
        clear h34 HS1
        by_cases hlo : cv < 32
        · have HR : Hid (textT s i = .inl (k, 9)) := by
            have hR2 : R = ([], 0, k, 9) := by rw [HS2.out, if_pos (by rw [← HCV.out]; omega)]
            rw [HTT.out, hR2]; exact rfl
          go_wp2_with fail
          refine (wrong_any (k) 9 wr).mono ?_
          rintro e w2 ⟨rfl, hb2⟩
          unfold told toldV
          have HB2 := Lib.hid (HBW.out.trans (hb2.mono HBW.out.size))
          have HY2 : Hid (Blk w2 w.heap.size 72 #[.int .u8 0, .string ⟨#[]⟩, .int .i64 0, .int .i64 0, .int .i64 0, .int .i64 0, .int .i64 0]) := (hb2.block _ hszr).trans HY.out
          clear hb2
          go_wp2_with (refine wpList_store_row rfl 72 _ _ rfl w.heap.size #[.int .u8 0, .string ⟨#[]⟩, .int .i64 0, .int .i64 0, .int .i64 0, .int .i64 (k : Nat), .int .i64 9] rfl rfl 72 _ HY2.out (by kernel_rfl) (by kernel_rfl) (by kernel_rfl) ?_)
          refine bodyPost_ret (results_cell_row rfl _ _ w.heap.size 72 #[.int .u8 0, .string ⟨#[]⟩, .int .i64 0, .int .i64 0, .int .i64 0, .int .i64 (k : Nat), .int .i64 9] (0, 0) _ rfl (setRow_heap _ w.heap.size _ _ 72 _ HY2.out) Tryz.underlying72 rfl (by kernel_rfl)) rfl ⟨by rw [HR.out]; rfl, below_setRow HB2.out (Nat.le_refl _) _⟩
        · by_cases hup : 126 < cv
          · have HR : Hid (textT s i = .inl (k, 9)) := by
              have hR2 : R = ([], 0, k, 9) := by rw [HS2.out, if_pos (by rw [← HCV.out]; omega)]
              rw [HTT.out, hR2]; exact rfl
            go_wp2_with fail
            refine (wrong_any (k) 9 wr).mono ?_
            rintro e w2 ⟨rfl, hb2⟩
            unfold told toldV
            have HB2 := Lib.hid (HBW.out.trans (hb2.mono HBW.out.size))
            have HY2 : Hid (Blk w2 w.heap.size 72 #[.int .u8 0, .string ⟨#[]⟩, .int .i64 0, .int .i64 0, .int .i64 0, .int .i64 0, .int .i64 0]) := (hb2.block _ hszr).trans HY.out
            clear hb2
            go_wp2_with (refine wpList_store_row rfl 72 _ _ rfl w.heap.size #[.int .u8 0, .string ⟨#[]⟩, .int .i64 0, .int .i64 0, .int .i64 0, .int .i64 (k : Nat), .int .i64 9] rfl rfl 72 _ HY2.out (by kernel_rfl) (by kernel_rfl) (by kernel_rfl) ?_)
            refine bodyPost_ret (results_cell_row rfl _ _ w.heap.size 72 #[.int .u8 0, .string ⟨#[]⟩, .int .i64 0, .int .i64 0, .int .i64 0, .int .i64 (k : Nat), .int .i64 9] (0, 0) _ rfl (setRow_heap _ w.heap.size _ _ 72 _ HY2.out) Tryz.underlying72 rfl (by kernel_rfl)) rfl ⟨by rw [HR.out]; rfl, below_setRow HB2.out (Nat.le_refl _) _⟩
          · have HS3 : Hid (R = match charL s ch k with
                | .inl (q, e) => ([], 0, q, e)
                | .inr (x, nx) => if b.length = 4095 then ([], 0, i, 2) else textL s i nx (b ++ [UInt8.ofNat x])) := by rw [HS2.out, if_neg (by rw [← HCV.out]; omega)]; exact rfl
            clear HS2
            by_cases h92 : cv = 92
            · have hb92 : ((cv : Int) == 92) = true := by rw [h92]; rfl
              have HS5 : Hid (R = match escL s (k + 1) with
                | .inl (q, e) => ([], 0, q, e)
                | .inr (x, nx) => if b.length = 4095 then ([], 0, i, 2) else textL s i nx (b ++ [UInt8.ofNat x])) := by
                have h := HS3.out
                unfold charL at h
                rw [if_pos ((HE.out 92).2 (HCV.out.symm.trans h92))] at h
                exact h
              clear HS3 h92
              have HEK := Lib.hid (HESC.out (k + 1) wr)
              rcases hes : escL s (k + 1) with ⟨q, er⟩ | ⟨x, nx⟩
              · have her := esc_err hes
                have HR : Hid (textT s i = .inl (q, er)) := by
                  have hR2 : R = ([], 0, q, er) := by rw [HS5.out, hes]
                  rw [HTT.out, hR2]; exact if_neg her
                have hbe : ((er : Int) != 0) = true := by rw [bne_iff_ne]; omega
                rw [hes] at HEK
                unfold escR EscPost at HEK
                clear hes her
                dsimp only at HEK
                go_wp2_with fail
                refine HEK.out.mono ?_
                rintro e w2 ⟨rfl, hw2⟩
                rw [hw2]
                clear hw2 w2
                go_wp2_with fail
                refine (wrong_any (q) (er) wr).mono ?_
                rintro e w2 ⟨rfl, hb2⟩
                unfold told toldV
                have HB2 := Lib.hid (HBW.out.trans (hb2.mono HBW.out.size))
                have HY2 : Hid (Blk w2 w.heap.size 72 #[.int .u8 0, .string ⟨#[]⟩, .int .i64 0, .int .i64 0, .int .i64 0, .int .i64 0, .int .i64 0]) := (hb2.block _ hszr).trans HY.out
                clear hb2
                go_wp2_with (refine wpList_store_row rfl 72 _ _ rfl w.heap.size #[.int .u8 0, .string ⟨#[]⟩, .int .i64 0, .int .i64 0, .int .i64 0, .int .i64 (q : Nat), .int .i64 (er : Nat)] rfl rfl 72 _ HY2.out (by kernel_rfl) (by kernel_rfl) (by kernel_rfl) ?_)
                refine bodyPost_ret (results_cell_row rfl _ _ w.heap.size 72 #[.int .u8 0, .string ⟨#[]⟩, .int .i64 0, .int .i64 0, .int .i64 0, .int .i64 (q : Nat), .int .i64 (er : Nat)] (0, 0) _ rfl (setRow_heap _ w.heap.size _ _ 72 _ HY2.out) Tryz.underlying72 rfl (by kernel_rfl)) rfl ⟨by rw [HR.out]; rfl, below_setRow HB2.out (Nat.le_refl _) _⟩
              · have hnx : k < nx ∧ x < 256 := charL_next (c := 92) (show charL s 92 k = .inr (x, nx) by unfold charL; rw [if_pos rfl]; exact hes)
                obtain ⟨hnx1, hx256⟩ := hnx
                have hnxn : nx ≤ n := by rw [HN.out]; exact esc_le hes
                have HS4 : Hid (R = if b.length = 4095 then ([], 0, i, 2) else textL s i nx (b ++ [UInt8.ofNat x])) := by have h := HS5.out; rw [hes] at h; exact h
                rw [hes] at HEK
                unfold escR EscPost at HEK
                clear hes HS5
                dsimp only at HEK
                by_cases hmx : m = 4095
                · have HR : Hid (textT s i = .inl (i, 2)) := by
                    have hR2 : R = ([], 0, i, 2) := by rw [HS4.out, if_pos (HM.out.symm.trans hmx)]
                    rw [HTT.out, hR2]; exact rfl
                  have hbm : ((m : Int) == 4095) = true := by rw [hmx]; rfl
                  clear hmx
                  go_wp2_with fail
                  refine HEK.out.mono ?_
                  rintro e w2 ⟨rfl, hw2⟩
                  rw [hw2]
                  clear hw2 w2
                  go_wp2_with fail
                  refine (wrong_any (i) 2 wr).mono ?_
                  rintro e w2 ⟨rfl, hb2⟩
                  unfold told toldV
                  have HB2 := Lib.hid (HBW.out.trans (hb2.mono HBW.out.size))
                  have HY2 : Hid (Blk w2 w.heap.size 72 #[.int .u8 0, .string ⟨#[]⟩, .int .i64 0, .int .i64 0, .int .i64 0, .int .i64 0, .int .i64 0]) := (hb2.block _ hszr).trans HY.out
                  clear hb2
                  go_wp2_with (refine wpList_store_row rfl 72 _ _ rfl w.heap.size #[.int .u8 0, .string ⟨#[]⟩, .int .i64 0, .int .i64 0, .int .i64 0, .int .i64 (i : Nat), .int .i64 2] rfl rfl 72 _ HY2.out (by kernel_rfl) (by kernel_rfl) (by kernel_rfl) ?_)
                  refine bodyPost_ret (results_cell_row rfl _ _ w.heap.size 72 #[.int .u8 0, .string ⟨#[]⟩, .int .i64 0, .int .i64 0, .int .i64 0, .int .i64 (i : Nat), .int .i64 2] (0, 0) _ rfl (setRow_heap _ w.heap.size _ _ 72 _ HY2.out) Tryz.underlying72 rfl (by kernel_rfl)) rfl ⟨by rw [HR.out]; rfl, below_setRow HB2.out (Nat.le_refl _) _⟩
                · have HR2 : Hid (R = textL s i nx (b ++ [UInt8.ofNat x])) := by rw [HS4.out, if_neg (fun h => hmx (HM.out.trans h))]; exact rfl
                  have hbm : ((m : Int) == 4095) = false := by rw [beq_eq_false_iff_ne]; omega
                  have HX2 : Hid (bcells (b ++ [UInt8.ofNat x]) = bcells b ++ [.int .u8 (x : Nat)]) := by rw [bcells_append]; exact congrArg (fun z => bcells b ++ [Value.int .u8 ((z : Nat) : Int)]) (by first | rfl | (rw [UInt8.toNat_ofNat']; exact Nat.mod_eq_of_lt (by omega)))
                  obtain ⟨hi0, hz0, hz1, hz2⟩ := HI.out
                  go_wp2_with fail
                  refine HEK.out.mono ?_
                  rintro e w2 ⟨rfl, hw2⟩
                  rw [hw2]
                  clear hw2 w2
                  go_wp2_with (at_builtin; refine wpList_append_own _ rfl (.tmp 61) (.tmp 63) 83 rfl (w.heap.size + 1) 5 i0 (.int .u8 0) 1 1 Tryz.underlying83 hi0 hz0 hz1 hz2 rfl (by decide) (.slice A m cap) m (bcells b) rfl (HO.out.alloc _) ⟨wr.heap.size, 0, none⟩ 1 1 [.int .u8 (x : Nat)] rfl rfl (cell_one_new _ _ _) (by intro u hu; rw [List.mem_singleton] at hu; subst hu; rfl) (by unfold maxLen; omega) (by omega) (by simp; omega) ?_; intro v3 w3 ho3 hg3 _; obtain ⟨A3, c3, rfl, _⟩ := own_form ho3; have HO3 := Lib.hid ho3; have HG3 := Lib.hid hg3; clear ho3 hg3)
                  have HL := Lib.hid (show (b ++ [UInt8.ofNat x]).length = m + 1 by rw [List.length_append, ← HM.out]; rfl)
                  go_wp2_with fail
                  go_roundw
                  case rel =>
                    refine ⟨nx, b ++ [UInt8.ofNat x], A3, c3, by go_num, by rw [HL.out], by omega, by omega, by rw [HL.out]; omega, HR2.out.symm, by rw [HL.out, HX2.out]; exact HO3.out, ?_, ?_⟩
                    · exact (HB.out.alloc HB.out.size _).grown HG3.out (by have := HB.out.size; simp; omega) (fun g hg => by have := (World.ownsRow.lt HO.out g hg).1; omega)
                    · exact (HY.out.alloc _).grown HG3.out (fun h => by have := (World.ownsRow.lt HO.out _ h.symm).1; omega)
                  case measure => simp [intOf]; omega
            · have hb92 : ((cv : Int) == 92) = false := by rw [beq_eq_false_iff_ne]; omega
              have HS4 : Hid (R = if b.length = 4095 then ([], 0, i, 2) else textL s i (k + 1) (b ++ [UInt8.ofNat cv])) := by
                have h := HS3.out
                unfold charL at h
                rw [if_neg (fun h => h92 (HCV.out.trans ((HE.out 92).1 h))), ← HCV.out] at h
                exact h
              clear HS3 h92
              by_cases hmx : m = 4095
              · have HR : Hid (textT s i = .inl (i, 2)) := by
                  have hR2 : R = ([], 0, i, 2) := by rw [HS4.out, if_pos (HM.out.symm.trans hmx)]
                  rw [HTT.out, hR2]; exact rfl
                have hbm : ((m : Int) == 4095) = true := by rw [hmx]; rfl
                clear hmx
                go_wp2_with fail
                refine (wrong_any (i) 2 wr).mono ?_
                rintro e w2 ⟨rfl, hb2⟩
                unfold told toldV
                have HB2 := Lib.hid (HBW.out.trans (hb2.mono HBW.out.size))
                have HY2 : Hid (Blk w2 w.heap.size 72 #[.int .u8 0, .string ⟨#[]⟩, .int .i64 0, .int .i64 0, .int .i64 0, .int .i64 0, .int .i64 0]) := (hb2.block _ hszr).trans HY.out
                clear hb2
                go_wp2_with (refine wpList_store_row rfl 72 _ _ rfl w.heap.size #[.int .u8 0, .string ⟨#[]⟩, .int .i64 0, .int .i64 0, .int .i64 0, .int .i64 (i : Nat), .int .i64 2] rfl rfl 72 _ HY2.out (by kernel_rfl) (by kernel_rfl) (by kernel_rfl) ?_)
                refine bodyPost_ret (results_cell_row rfl _ _ w.heap.size 72 #[.int .u8 0, .string ⟨#[]⟩, .int .i64 0, .int .i64 0, .int .i64 0, .int .i64 (i : Nat), .int .i64 2] (0, 0) _ rfl (setRow_heap _ w.heap.size _ _ 72 _ HY2.out) Tryz.underlying72 rfl (by kernel_rfl)) rfl ⟨by rw [HR.out]; rfl, below_setRow HB2.out (Nat.le_refl _) _⟩
              · have HR2 : Hid (R = textL s i (k + 1) (b ++ [UInt8.ofNat cv])) := by rw [HS4.out, if_neg (fun h => hmx (HM.out.trans h))]; exact rfl
                have hbm : ((m : Int) == 4095) = false := by rw [beq_eq_false_iff_ne]; omega
                have HX2 : Hid (bcells (b ++ [UInt8.ofNat cv]) = bcells b ++ [.int .u8 (cv : Nat)]) := by rw [bcells_append]; exact congrArg (fun z => bcells b ++ [Value.int .u8 ((z : Nat) : Int)]) (by first | rfl | (rw [UInt8.toNat_ofNat']; exact Nat.mod_eq_of_lt (by omega)))
                obtain ⟨hi0, hz0, hz1, hz2⟩ := HI.out
                go_wp2_with (at_builtin; refine wpList_append_own _ rfl (.tmp 61) (.tmp 63) 83 rfl (w.heap.size + 1) 5 i0 (.int .u8 0) 1 1 Tryz.underlying83 hi0 hz0 hz1 hz2 rfl (by decide) (.slice A m cap) m (bcells b) rfl (HO.out.alloc _) ⟨wr.heap.size, 0, none⟩ 1 1 [.int .u8 (cv : Nat)] rfl rfl (cell_one_new _ _ _) (by intro u hu; rw [List.mem_singleton] at hu; subst hu; rfl) (by unfold maxLen; omega) (by omega) (by simp; omega) ?_; intro v3 w3 ho3 hg3 _; obtain ⟨A3, c3, rfl, _⟩ := own_form ho3; have HO3 := Lib.hid ho3; have HG3 := Lib.hid hg3; clear ho3 hg3)
                have HL := Lib.hid (show (b ++ [UInt8.ofNat cv]).length = m + 1 by rw [List.length_append, ← HM.out]; rfl)
                go_wp2_with fail
                go_roundw
                case rel =>
                  refine ⟨(k + 1), b ++ [UInt8.ofNat cv], A3, c3, by go_num, by rw [HL.out], by omega, by omega, by rw [HL.out]; omega, HR2.out.symm, by rw [HL.out, HX2.out]; exact HO3.out, ?_, ?_⟩
                  · exact (HB.out.alloc HB.out.size _).grown HG3.out (by have := HB.out.size; simp; omega) (fun g hg => by have := (World.ownsRow.lt HO.out g hg).1; omega)
                  · exact (HY.out.alloc _).grown HG3.out (fun h => by have := (World.ownsRow.lt HO.out _ h.symm).1; omega)
                case measure => simp [intOf]; omega
    · have HR : Hid (textT s i = .inl (n, 4)) := by
        have h := HSTEP.out
        rw [List.getElem?_eq_none (by rw [← HN.out]; omega)] at h
        rw [HTT.out, h, HN.out]; exact rfl
      go_wp2_with fail
      refine (wrong_any (n) 4 wr).mono ?_
      rintro e w2 ⟨rfl, hb2⟩
      unfold told toldV
      have HB2 := Lib.hid (HBW.out.trans (hb2.mono HBW.out.size))
      have HY2 : Hid (Blk w2 w.heap.size 72 #[.int .u8 0, .string ⟨#[]⟩, .int .i64 0, .int .i64 0, .int .i64 0, .int .i64 0, .int .i64 0]) := (hb2.block _ hszr).trans HY.out
      clear hb2
      go_wp2_with (refine wpList_store_row rfl 72 _ _ rfl w.heap.size #[.int .u8 0, .string ⟨#[]⟩, .int .i64 0, .int .i64 0, .int .i64 0, .int .i64 (n : Nat), .int .i64 4] rfl rfl 72 _ HY2.out (by kernel_rfl) (by kernel_rfl) (by kernel_rfl) ?_)
      refine bodyPost_ret (results_cell_row rfl _ _ w.heap.size 72 #[.int .u8 0, .string ⟨#[]⟩, .int .i64 0, .int .i64 0, .int .i64 0, .int .i64 (n : Nat), .int .i64 4] (0, 0) _ rfl (setRow_heap _ w.heap.size _ _ 72 _ HY2.out) Tryz.underlying72 rfl (by kernel_rfl)) rfl ⟨by rw [HR.out]; rfl, below_setRow HB2.out (Nat.le_refl _) _⟩
end Go.Proofs.YtbcadlocldplfaaGreat
namespace Go.Proofs.YtbcadlocldplfaaGreat
theorem cut_scan (p : UInt8 → Bool) (s : List UInt8) (i : Nat) : cutL s i (scan p s i) = (s.drop i).takeWhile p := by
  unfold cutL scan
  rw [List.drop_take, Nat.add_sub_cancel_left]
  exact (List.prefix_iff_eq_take.1 (List.takeWhile_prefix p)).symm
theorem cut_all (p : UInt8 → Bool) (s : List UInt8) (i : Nat) : ∀ c ∈ cutL s i (scan p s i), p c = true := by
  rw [cut_scan]
  intro c hc
  have := List.all_takeWhile (l := s.drop i) (p := p)
  rw [List.all_eq_true] at this
  exact this c hc
theorem cut_len (p : UInt8 → Bool) (s : List UInt8) (i : Nat) : (cutL s i (scan p s i)).length = scan p s i - i := by
  rw [cut_scan]; unfold scan; omega
def valF (x : Nat) (l : List UInt8) : Nat := l.foldl (fun x c => 10 * x + (c.toNat - 48)) x
theorem valF_zero (l : List UInt8) : valF 0 l = val l := rfl
theorem valF_eq : ∀ (l : List UInt8) (x : Nat), valF x l = x * 10 ^ l.length + val l
  | [], x => by simp [valF, val]
  | c :: l, x => by
    have h1 : valF x (c :: l) = valF (10 * x + (c.toNat - 48)) l := rfl
    have h2 : val (c :: l) = valF (10 * 0 + (c.toNat - 48)) l := rfl
    rw [h1, h2, valF_eq l, valF_eq l, List.length_cons, Nat.pow_succ, Nat.add_mul, Nat.add_mul]
    have : 10 * x * 10 ^ l.length = x * (10 ^ l.length * 10) := by rw [Nat.mul_comm 10 x, Nat.mul_assoc, Nat.mul_comm 10]
    omega
theorem val_lt : ∀ (l : List UInt8), (∀ c ∈ l, digB c = true) → val l < 10 ^ l.length
  | [], _ => by simp [val]
  | c :: l, h => by
    have h2 : val (c :: l) = valF (10 * 0 + (c.toNat - 48)) l := rfl
    have hd := h c (by simp)
    unfold digB at hd
    have hc : 48 ≤ c.toNat ∧ c.toNat ≤ 57 := by simpa using hd
    have ih := val_lt l (fun d hd => h d (by simp [hd]))
    rw [h2, valF_eq, List.length_cons, Nat.pow_succ]
    obtain ⟨z, hz⟩ : ∃ z, z = 10 ^ l.length := ⟨_, rfl⟩
    rw [← hz] at ih ⊢
    have : (10 * 0 + (c.toNat - 48)) * z ≤ 9 * z := Nat.mul_le_mul_right _ (by omega)
    omega
theorem val_ge (c : UInt8) (l : List UInt8) (hc : 49 ≤ c.toNat) : 10 ^ l.length ≤ val (c :: l) := by
  have h2 : val (c :: l) = valF (10 * 0 + (c.toNat - 48)) l := rfl
  rw [h2, valF_eq]
  have : 1 * 10 ^ l.length ≤ (10 * 0 + (c.toNat - 48)) * 10 ^ l.length := Nat.mul_le_mul_right _ (by omega)
  omega
theorem less_val : ∀ (a b : List UInt8), a.length = b.length → (∀ c ∈ a, digB c = true) → (∀ c ∈ b, digB c = true) → Op.bytesLess a b = decide (val a < val b)
  | [], [], _, _, _ => by simp [Op.bytesLess, val]
  | [], _ :: _, h, _, _ => by simp at h
  | _ :: _, [], h, _, _ => by simp at h
  | c :: a, d :: b, h, ha, hb => by
    have hl : a.length = b.length := by simpa using h
    have ih := less_val a b hl (fun x hx => ha x (by simp [hx])) (fun x hx => hb x (by simp [hx]))
    have h1 : val (c :: a) = valF (10 * 0 + (c.toNat - 48)) a := rfl
    have h2 : val (d :: b) = valF (10 * 0 + (d.toNat - 48)) b := rfl
    have hc0 := ha c (by simp)
    have hd0 := hb d (by simp)
    unfold digB at hc0 hd0
    have hc : 48 ≤ c.toNat ∧ c.toNat ≤ 57 := by simpa using hc0
    have hd : 48 ≤ d.toNat ∧ d.toNat ≤ 57 := by simpa using hd0
    have la := val_lt a (fun x hx => ha x (by simp [hx]))
    have lb := val_lt b (fun x hx => hb x (by simp [hx]))
    rw [Op.bytesLess, ih, h1, h2, valF_eq, valF_eq, ← hl]
    rw [← hl] at lb
    obtain ⟨z, hz⟩ : ∃ z, z = 10 ^ a.length := ⟨_, rfl⟩
    rw [← hz] at la lb ⊢
    rcases Nat.lt_trichotomy c.toNat d.toNat with hlt | heq | hgt
    · have e1 : decide (c < d) = true := decide_eq_true (UInt8.lt_iff_toNat_lt.2 hlt)
      have e2 : (10 * 0 + (c.toNat - 48) + 1) * z ≤ (10 * 0 + (d.toNat - 48)) * z := Nat.mul_le_mul_right _ (by omega)
      rw [Nat.add_mul] at e2
      rw [e1, Bool.true_or]
      exact (decide_eq_true (by omega)).symm
    · have e0 : c = d := UInt8.toNat_inj.1 heq
      subst e0
      have e1 : decide (c < c) = false := decide_eq_false (fun h => by have := UInt8.lt_iff_toNat_lt.1 h; omega)
      rw [e1, beq_self_eq_true, Bool.false_or, Bool.true_and, Bool.eq_iff_iff]
      simp
    · have e1 : decide (c < d) = false := decide_eq_false (fun h => by have := UInt8.lt_iff_toNat_lt.1 h; omega)
      have e3 : (c == d) = false := by rw [beq_eq_false_iff_ne]; intro h; subst h; omega
      have e2 : (10 * 0 + (d.toNat - 48) + 1) * z ≤ (10 * 0 + (c.toNat - 48)) * z := Nat.mul_le_mul_right _ (by omega)
      rw [Nat.add_mul] at e2
      rw [e1, e3, Bool.false_and, Bool.or_self]
      exact (decide_eq_false (by omega)).symm
abbrev most19 : List UInt8 := [57, 50, 50, 51, 51, 55, 50, 48, 51, 54, 56, 53, 52, 55, 55, 53, 56, 48, 55]
theorem val_most : val most19 = 9223372036854775807 := by rfl
theorem most_dig : ∀ c ∈ most19, digB c = true := by decide
def bigB (l : List UInt8) : Bool := !(Op.bytesLess l most19 || l == most19)
theorem big_iff {l : List UInt8} (hl : l.length = 19) (hd : ∀ c ∈ l, digB c = true) : bigB l = decide (9223372036854775807 < val l) := by
  have h1 := less_val l most19 (by rw [hl]; rfl) hd most_dig
  have h2 := less_val most19 l (by rw [hl]; rfl) most_dig hd
  rw [val_most] at h1 h2
  unfold bigB
  rw [h1]
  by_cases he : l = most19
  · subst he
    rw [val_most]; simp
  · have he' : (l == most19) = false := by rw [beq_eq_false_iff_ne]; exact he
    have hne : val l ≠ 9223372036854775807 := by
      intro hv
      apply he
      have key : ∀ (a b : List UInt8), a.length = b.length → (∀ c ∈ a, digB c = true) → (∀ c ∈ b, digB c = true) → val a = val b → a = b := by
        intro a
        induction a with
        | nil => intro b h _ _ _; cases b with
          | nil => rfl
          | cons _ _ => simp at h
        | cons c a ih =>
          intro b h ha hb hv
          cases b with
          | nil => simp at h
          | cons d b =>
            have hl : a.length = b.length := by simpa using h
            have h1 : val (c :: a) = valF (10 * 0 + (c.toNat - 48)) a := rfl
            have h2 : val (d :: b) = valF (10 * 0 + (d.toNat - 48)) b := rfl
            have hc0 := ha c (by simp)
            have hd0 := hb d (by simp)
            unfold digB at hc0 hd0
            have hc : 48 ≤ c.toNat ∧ c.toNat ≤ 57 := by simpa using hc0
            have hd : 48 ≤ d.toNat ∧ d.toNat ≤ 57 := by simpa using hd0
            have la := val_lt a (fun x hx => ha x (by simp [hx]))
            have lb := val_lt b (fun x hx => hb x (by simp [hx]))
            rw [h1, h2, valF_eq, valF_eq, ← hl] at hv
            rw [← hl] at lb
            obtain ⟨z, hz⟩ : ∃ z, z = 10 ^ a.length := ⟨_, rfl⟩
            rw [← hz] at la lb hv
            rcases Nat.lt_trichotomy c.toNat d.toNat with hlt | heq | hgt
            · have e2 : (10 * 0 + (c.toNat - 48) + 1) * z ≤ (10 * 0 + (d.toNat - 48)) * z := Nat.mul_le_mul_right _ (by omega)
              rw [Nat.add_mul] at e2
              omega
            · have e0 : c = d := UInt8.toNat_inj.1 heq
              subst e0
              rw [ih b hl (fun x hx => ha x (by simp [hx])) (fun x hx => hb x (by simp [hx])) (by omega)]
            · have e2 : (10 * 0 + (d.toNat - 48) + 1) * z ≤ (10 * 0 + (c.toNat - 48)) * z := Nat.mul_le_mul_right _ (by omega)
              rw [Nat.add_mul] at e2
              omega
      exact key l most19 (by rw [hl]; rfl) hd most_dig (by rw [hv, val_most])
    rw [he', Bool.or_false, Bool.eq_iff_iff]
    simp
    omega
section
variable {s : List UInt8} {i E : Nat}
theorem big_long (hE : scan digB s i = E) (h48 : s[i]? ≠ some 48) (h : 19 < E - i) : 9223372036854775807 < val (cutL s i E) := by
  have hl := cut_len digB s i
  have ha := cut_all digB s i
  rw [hE] at hl ha
  cases hc : cutL s i E with
  | nil => rw [hc] at hl; simp at hl; omega
  | cons c l =>
    rw [hc] at hl ha
    have hs : s[i]? = some c := by
      have h0 : (cutL s i E)[0]? = some c := by rw [hc]; rfl
      unfold cutL at h0
      rw [List.getElem?_drop, List.getElem?_take] at h0
      split at h0
      · simpa using h0
      · cases h0
    have hd := ha c (by simp)
    unfold digB at hd
    have hcc : 48 ≤ c.toNat ∧ c.toNat ≤ 57 := by simpa using hd
    have hne : c.toNat ≠ 48 := fun h => h48 (by rw [hs]; exact congrArg some (UInt8.toNat_inj.1 (by rw [h]; rfl)))
    have hv := val_ge c l (by omega)
    have hl2 : 19 ≤ l.length := by simp at hl; omega
    have hp : 10 ^ 19 ≤ 10 ^ l.length := Nat.pow_le_pow_right (by omega) hl2
    have : (9223372036854775807 : Nat) < 10 ^ 19 := by decide
    omega
theorem big_19 (hE : scan digB s i = E) (h : E - i = 19) : bigB (cutL s i E) = decide (9223372036854775807 < val (cutL s i E)) := by
  have hl := cut_len digB s i
  have ha := cut_all digB s i
  rw [hE] at hl ha
  exact big_iff (by rw [hl, h]) ha
theorem big_short (hE : scan digB s i = E) (h : E - i < 19) : val (cutL s i E) ≤ 9223372036854775807 := by
  have hl := cut_len digB s i
  have ha := cut_all digB s i
  rw [hE] at hl ha
  have hv := val_lt _ ha
  rw [hl] at hv
  have hp : 10 ^ (E - i) ≤ 10 ^ 18 := Nat.pow_le_pow_right (by omega) (by omega)
  have : (10 ^ 18 : Nat) ≤ 9223372036854775807 := by decide
  omega
end
end Go.Proofs.YtbcadlocldplfaaGreat
namespace Go.Proofs.YtbcadlocldplfaaGreat
open Go.RowKit
set_option maxHeartbeats 8000000 in
theorem refNumber_any (s : List UInt8) (i : Nat) (c0 : UInt8) (hs : s.length ≤ 100000) (hc0 : s[i]? = some c0) (hd0 : digB c0 = true) (w : World) :
    Calls Tryz.prog 67 #[.string ⟨s.toArray⟩, .int .i64 (i : Nat)] w (ToldPost w (numT s i)) := by
  obtain ⟨st, hst⟩ : ∃ st : ByteArray, st = ⟨s.toArray⟩ := ⟨_, rfl⟩
  have hsz : st.size = s.length := by rw [hst]; rfl
  obtain ⟨n, hn⟩ : ∃ n, n = s.length := ⟨_, rfl⟩
  obtain ⟨E, hE⟩ : ∃ E, E = scan digB s i := ⟨_, rfl⟩
  have hil : i < s.length := (List.getElem?_eq_some_iff.1 hc0).1
  have hsi : s[i] = c0 := by have h := hc0; rw [List.getElem?_eq_getElem hil] at h; injection h
  have hEn : E ≤ n := by rw [hE, hn]; exact scan_le _ _ (by omega)
  have hiE : i + 1 ≤ E := by rw [hE, scan_step digB s hil (by rw [hsi]; exact hd0)]; exact scan_ge _ _ _
  have hist0 : i < st.size := by omega
  obtain ⟨v0, hv0⟩ : ∃ v, v = c0.toNat := ⟨_, rfl⟩
  have hg0 : st[i].toNat = v0 := by rw [hv0, ← hsi, st_get hst hist0 hil]
  have hv0l : v0 < 256 := by rw [hv0]; exact UInt8.toNat_lt _
  have HC48 : Hid (s[i]? = some 48 ↔ v0 = 48) := by
    rw [hc0, hv0]
    constructor
    · intro h; injection h with h; rw [h]; rfl
    · intro h; exact congrArg some (UInt8.toNat_inj.1 (by rw [h]; rfl))
  rw [← hst]
  rw [← hn] at hsz hs hil
  have HST := Lib.hid hst
  have HN := Lib.hid hn
  have HE := Lib.hid hE
  clear hst hn hE hsi hc0 hd0 hv0
  go_enter Tryz.func67, Tryz.ntmps67
  go_wp2_with fail
  go_loopw [5] (fun s5 wr => (∃ k : Nat, s5 = .int .i64 k ∧ i ≤ k ∧ k ≤ E ∧ scan digB s k = E) ∧ wr = w.alloc (.cells #[.int .u8 0, .string ⟨#[]⟩, .int .i64 0, .int .i64 0, .int .i64 0, .int .i64 0, .int .i64 0] 72)) (fun s5 _ => n - (intOf s5).toNat)
  case atStart => exact ⟨⟨i, rfl, Nat.le_refl _, by omega, HE.out.symm⟩, rfl⟩
  case round =>
    obtain ⟨⟨k, rfl, hik, hkE, hsc⟩, hw⟩ := hrel
    have HX := Lib.hid (And.intro hsc hw)
    clear hsc hw
    by_cases hlt : k < n
    · have hks : k < s.length := by rw [← HN.out]; exact hlt
      obtain ⟨ch, hch⟩ : ∃ c, c = s[k] := ⟨_, rfl⟩
      have hkst : k < st.size := by omega
      have hg : st[k] = ch := by rw [hch]; exact st_get HST.out hkst hks
      have HCK : Hid (s[k]? = some ch) := by rw [hch]; exact List.getElem?_eq_getElem hks
      have HSP : Hid (digB ch = false → k = E) := fun hd => by rw [← HX.out.1]; exact (scan_stop _ _ hks (by rw [← hch]; exact hd)).symm
      have HST2 : Hid (digB ch = true → scan digB s (k + 1) = E) := fun hd => by rw [← HX.out.1]; exact (scan_step _ _ hks (by rw [← hch]; exact hd)).symm
      clear hch hks
      have hcl : ch.toNat < 256 := UInt8.toNat_lt _
      have HDI := Lib.hid (dig_any ch wr)
      have HLO := Lib.hid (low_any ch wr)
      have HIN : Hid (innB ch = (lowB ch || digB ch || decide (ch.toNat = 95))) := rfl
      obtain ⟨cv, hcv⟩ : ∃ v, v = ch.toNat := ⟨_, rfl⟩
      have hg2 : st[k].toNat = cv := by rw [hg, hcv]
      rw [← hcv] at HDI HLO HIN hcl
      clear hg hcv
      cases hdi : digB ch
      · have hkE2 := HSP.out hdi
        have HDF := Lib.hid hdi
        have hbw : Below w.heap.size w wr := by rw [HX.out.2]; exact (Below.refl _ _).alloc (Nat.le_refl _) _
        have HBW := Lib.hid hbw
        have hy : Blk wr w.heap.size 72 #[.int .u8 0, .string ⟨#[]⟩, .int .i64 0, .int .i64 0, .int .i64 0, .int .i64 0, .int .i64 0] := by rw [HX.out.2]; exact Blk.new w 72 _
        have HY := Lib.hid hy
        have hszr : w.heap.size < wr.heap.size := hy.lt
        have HEK : Hid (scan digB s i = k) := by rw [← HE.out]; exact hkE2.symm
        have hik2 : i + 1 ≤ k := by omega
        clear hbw hy hkE2
        by_cases hz : v0 = 48 ∧ i + 1 < k
        · obtain ⟨hz1, hz2⟩ := hz
          have HR : Hid (numT s i = .inl (i + 1, 9)) := by unfold numT; rw [numL_zero (HC48.out.2 hz1) (by rw [HEK.out]; exact hz2)]; exact rfl
          have hb0 : ((v0 : Int) == 48) = true := by rw [hz1]; rfl
          have hb1 : decide ((i : Int) + 1 < (k : Int)) = true := decide_eq_true (by omega)
          clear hz1
          go_wp2_with fail
          refine HDI.out.mono ?_
          rintro e w3 ⟨rfl, hw3⟩
          rw [hw3, hdi]
          clear hw3 w3
          go_wp2_with fail
          refine (wrong_any (i + 1) 9 wr).mono ?_
          rintro e w2 ⟨rfl, hb2⟩
          unfold told toldV
          have HB2 := Lib.hid (HBW.out.trans (hb2.mono HBW.out.size))
          have HY2 : Hid (Blk w2 w.heap.size 72 #[.int .u8 0, .string ⟨#[]⟩, .int .i64 0, .int .i64 0, .int .i64 0, .int .i64 0, .int .i64 0]) := (hb2.block _ hszr).trans HY.out
          clear hb2
          go_wp2_with (refine wpList_store_row rfl 72 _ _ rfl w.heap.size #[.int .u8 0, .string ⟨#[]⟩, .int .i64 0, .int .i64 0, .int .i64 0, .int .i64 (i + 1 : Nat), .int .i64 9] rfl rfl 72 _ HY2.out (by kernel_rfl) (by kernel_rfl) (by kernel_rfl) ?_)
          refine bodyPost_ret (results_cell_row rfl _ _ w.heap.size 72 #[.int .u8 0, .string ⟨#[]⟩, .int .i64 0, .int .i64 0, .int .i64 0, .int .i64 (i + 1 : Nat), .int .i64 9] (0, 0) _ rfl (setRow_heap _ w.heap.size _ _ 72 _ HY2.out) Tryz.underlying72 rfl (by kernel_rfl)) rfl ⟨by rw [HR.out]; rfl, below_setRow HB2.out (Nat.le_refl _) _⟩
        · have HZ : Hid (¬ (s[i]? = some 48 ∧ i + 1 < scan digB s i)) := fun h => hz ⟨HC48.out.1 h.1, by have := h.2; rw [HEK.out] at this; exact this⟩
          have H48 : Hid (i + 1 < k → s[i]? ≠ some 48) := fun h1 h2 => hz ⟨HC48.out.1 h2, h1⟩
          by_cases hlong : 9223372036854775807 < val (cutL s i k)
          · have HR : Hid (numT s i = .inl (i, 2)) := by unfold numT; rw [numL_long HZ.out (by rw [HEK.out]; exact hlong)]; exact rfl
            have hle : 19 ≤ k - i := by
              rcases Nat.lt_or_ge (k - i) 19 with h | h
              · have := big_short HEK.out h; omega
              · exact h
            have hb0 : ((v0 : Int) == 48) = false := by rw [beq_eq_false_iff_ne]; intro h; exact hz ⟨by omega, by omega⟩
            clear hz
            by_cases h19 : 19 < k - i
            · have hb19 : decide ((19 : Int) < (k : Int) - (i : Int)) = true := decide_eq_true (by omega)
              clear hlong
              go_wp2_with fail
              refine HDI.out.mono ?_
              rintro e w3 ⟨rfl, hw3⟩
              rw [hw3, hdi]
              clear hw3 w3
              go_wp2_with fail
              refine (wrong_any (i) 2 wr).mono ?_
              rintro e w2 ⟨rfl, hb2⟩
              unfold told toldV
              have HB2 := Lib.hid (HBW.out.trans (hb2.mono HBW.out.size))
              have HY2 : Hid (Blk w2 w.heap.size 72 #[.int .u8 0, .string ⟨#[]⟩, .int .i64 0, .int .i64 0, .int .i64 0, .int .i64 0, .int .i64 0]) := (hb2.block _ hszr).trans HY.out
              clear hb2
              go_wp2_with (refine wpList_store_row rfl 72 _ _ rfl w.heap.size #[.int .u8 0, .string ⟨#[]⟩, .int .i64 0, .int .i64 0, .int .i64 0, .int .i64 (i : Nat), .int .i64 2] rfl rfl 72 _ HY2.out (by kernel_rfl) (by kernel_rfl) (by kernel_rfl) ?_)
              refine bodyPost_ret (results_cell_row rfl _ _ w.heap.size 72 #[.int .u8 0, .string ⟨#[]⟩, .int .i64 0, .int .i64 0, .int .i64 0, .int .i64 (i : Nat), .int .i64 2] (0, 0) _ rfl (setRow_heap _ w.heap.size _ _ 72 _ HY2.out) Tryz.underlying72 rfl (by kernel_rfl)) rfl ⟨by rw [HR.out]; rfl, below_setRow HB2.out (Nat.le_refl _) _⟩
            · have HBG : Hid (bigB (cutL s i k) = true) := by rw [big_19 HEK.out (by omega)]; exact decide_eq_true hlong
              clear hlong
              have hbb : Op.bytesLess (cutL s i k) most19 = false ∧ (cutL s i k == most19) = false := by have h := HBG.out; unfold bigB at h; simpa [Bool.or_eq_false_iff] using h
              obtain ⟨hbl, hbe⟩ := hbb
              have hb19 : decide ((19 : Int) < (k : Int) - (i : Int)) = false := decide_eq_false (by omega)
              have hb20 : ((k : Int) - (i : Int) == 19) = true := by rw [beq_iff_eq]; omega
              have hsl := run_slice_string (P := Tryz.prog) (w := wr) 9 st .i64 .i64 (i : Nat) (k : Nat) Tryz.underlying9 (by omega) (by omega) (by omega)
              simp only [Int.toNat_natCast] at hsl
              have hex : st.extract i k = ⟨(cutL s i k).toArray⟩ := by rw [HST.out]; exact extract_cut s i k
              rw [hex] at hsl
              clear hex
              go_wp2_with fail
              refine HDI.out.mono ?_
              rintro e w3 ⟨rfl, hw3⟩
              rw [hw3, hdi]
              clear hw3 w3
              go_wp2_with fail
              refine (wrong_any (i) 2 wr).mono ?_
              rintro e w2 ⟨rfl, hb2⟩
              unfold told toldV
              have HB2 := Lib.hid (HBW.out.trans (hb2.mono HBW.out.size))
              have HY2 : Hid (Blk w2 w.heap.size 72 #[.int .u8 0, .string ⟨#[]⟩, .int .i64 0, .int .i64 0, .int .i64 0, .int .i64 0, .int .i64 0]) := (hb2.block _ hszr).trans HY.out
              clear hb2
              go_wp2_with (refine wpList_store_row rfl 72 _ _ rfl w.heap.size #[.int .u8 0, .string ⟨#[]⟩, .int .i64 0, .int .i64 0, .int .i64 0, .int .i64 (i : Nat), .int .i64 2] rfl rfl 72 _ HY2.out (by kernel_rfl) (by kernel_rfl) (by kernel_rfl) ?_)
              refine bodyPost_ret (results_cell_row rfl _ _ w.heap.size 72 #[.int .u8 0, .string ⟨#[]⟩, .int .i64 0, .int .i64 0, .int .i64 0, .int .i64 (i : Nat), .int .i64 2] (0, 0) _ rfl (setRow_heap _ w.heap.size _ _ 72 _ HY2.out) Tryz.underlying72 rfl (by kernel_rfl)) rfl ⟨by rw [HR.out]; rfl, below_setRow HB2.out (Nat.le_refl _) _⟩
          · have hvm : val (cutL s i k) ≤ 9223372036854775807 := by omega
            have HVM := Lib.hid hvm
            clear hvm
            have h19 : k - i ≤ 19 := by
              rcases Nat.lt_or_ge 19 (k - i) with h | h
              · have := big_long HEK.out (H48.out (by omega)) h; omega
              · exact h
            have HBG : Hid (k - i = 19 → bigB (cutL s i k) = false) := fun h => by rw [big_19 HEK.out h]; exact decide_eq_false hlong
            clear hlong
            have hb19 : decide ((19 : Int) < (k : Int) - (i : Int)) = false := decide_eq_false (by omega)
            by_cases h0 : v0 = 48
            · have hki : k = i + 1 := by rcases Nat.lt_or_ge (i + 1) k with h | h; exact absurd ⟨h0, h⟩ hz; omega
              have hb0 : ((v0 : Int) == 48) = true := by rw [h0]; rfl
              have hb1 : decide ((i : Int) + 1 < (k : Int)) = false := decide_eq_false (by omega)
              have hb20 : ((k : Int) - (i : Int) == 19) = false := by rw [beq_eq_false_iff_ne]; omega
              clear hz h0 hki
              by_cases hin : innB ch = true
              · have HR : Hid (numT s i = .inl (k, 9)) := by
                  unfold numT; rw [numL_next HEK.out H48.out HVM.out (by rw [← HN.out]; exact hlt)]
                  have hsk : s[k]'(by rw [← HN.out]; exact hlt) = ch := by have h := HCK.out; rw [List.getElem?_eq_getElem (by rw [← HN.out]; exact hlt)] at h; injection h
                  rw [hsk, hin]; exact rfl
                rw [HIN.out, HDF.out] at hin
                cases hlo : lowB ch
                · have h95 : cv = 95 := by rw [hlo] at hin; simpa using hin
                  have hb95 : ((cv : Int) == 95) = true := by rw [h95]; rfl
                  clear hin h95
                  go_wp2_with fail
                  refine HDI.out.mono ?_
                  rintro e w3 ⟨rfl, hw3⟩
                  rw [hw3, hdi]
                  clear hw3 w3
                  go_wp2_with fail
                  refine HLO.out.mono ?_
                  rintro e w3 ⟨rfl, hw3⟩
                  rw [hw3, hlo]
                  clear hw3 w3
                  go_wp2_with fail
                  refine (wrong_any (k) 9 wr).mono ?_
                  rintro e w2 ⟨rfl, hb2⟩
                  unfold told toldV
                  have HB2 := Lib.hid (HBW.out.trans (hb2.mono HBW.out.size))
                  have HY2 : Hid (Blk w2 w.heap.size 72 #[.int .u8 0, .string ⟨#[]⟩, .int .i64 0, .int .i64 0, .int .i64 0, .int .i64 0, .int .i64 0]) := (hb2.block _ hszr).trans HY.out
                  clear hb2
                  go_wp2_with (refine wpList_store_row rfl 72 _ _ rfl w.heap.size #[.int .u8 0, .string ⟨#[]⟩, .int .i64 0, .int .i64 0, .int .i64 0, .int .i64 (k : Nat), .int .i64 9] rfl rfl 72 _ HY2.out (by kernel_rfl) (by kernel_rfl) (by kernel_rfl) ?_)
                  refine bodyPost_ret (results_cell_row rfl _ _ w.heap.size 72 #[.int .u8 0, .string ⟨#[]⟩, .int .i64 0, .int .i64 0, .int .i64 0, .int .i64 (k : Nat), .int .i64 9] (0, 0) _ rfl (setRow_heap _ w.heap.size _ _ 72 _ HY2.out) Tryz.underlying72 rfl (by kernel_rfl)) rfl ⟨by rw [HR.out]; rfl, below_setRow HB2.out (Nat.le_refl _) _⟩
                · clear hin
                  go_wp2_with fail
                  refine HDI.out.mono ?_
                  rintro e w3 ⟨rfl, hw3⟩
                  rw [hw3, hdi]
                  clear hw3 w3
                  go_wp2_with fail
                  refine HLO.out.mono ?_
                  rintro e w3 ⟨rfl, hw3⟩
                  rw [hw3, hlo]
                  clear hw3 w3
                  go_wp2_with fail
                  refine (wrong_any (k) 9 wr).mono ?_
                  rintro e w2 ⟨rfl, hb2⟩
                  unfold told toldV
                  have HB2 := Lib.hid (HBW.out.trans (hb2.mono HBW.out.size))
                  have HY2 : Hid (Blk w2 w.heap.size 72 #[.int .u8 0, .string ⟨#[]⟩, .int .i64 0, .int .i64 0, .int .i64 0, .int .i64 0, .int .i64 0]) := (hb2.block _ hszr).trans HY.out
                  clear hb2
                  go_wp2_with (refine wpList_store_row rfl 72 _ _ rfl w.heap.size #[.int .u8 0, .string ⟨#[]⟩, .int .i64 0, .int .i64 0, .int .i64 0, .int .i64 (k : Nat), .int .i64 9] rfl rfl 72 _ HY2.out (by kernel_rfl) (by kernel_rfl) (by kernel_rfl) ?_)
                  refine bodyPost_ret (results_cell_row rfl _ _ w.heap.size 72 #[.int .u8 0, .string ⟨#[]⟩, .int .i64 0, .int .i64 0, .int .i64 0, .int .i64 (k : Nat), .int .i64 9] (0, 0) _ rfl (setRow_heap _ w.heap.size _ _ 72 _ HY2.out) Tryz.underlying72 rfl (by kernel_rfl)) rfl ⟨by rw [HR.out]; rfl, below_setRow HB2.out (Nat.le_refl _) _⟩
              · have hin : innB ch = false := by simpa using hin
                have HR : Hid (numT s i = .inr (⟨2, [], val (cutL s i k), i⟩, k)) := by
                  unfold numT; rw [numL_next HEK.out H48.out HVM.out (by rw [← HN.out]; exact hlt)]
                  have hsk : s[k]'(by rw [← HN.out]; exact hlt) = ch := by have h := HCK.out; rw [List.getElem?_eq_getElem (by rw [← HN.out]; exact hlt)] at h; injection h
                  rw [hsk, hin]; exact rfl
                rw [HIN.out, HDF.out] at hin
                have hlo : lowB ch = false := by cases h : lowB ch <;> simp_all
                have h95 : ¬ cv = 95 := by rw [hlo] at hin; simpa using hin
                have hb95 : ((cv : Int) == 95) = false := by rw [beq_eq_false_iff_ne]; omega
                clear hin h95
                go_wp2_with fail
                refine HDI.out.mono ?_
                rintro e w3 ⟨rfl, hw3⟩
                rw [hw3, hdi]
                clear hw3 w3
                go_wp2_with fail
                refine HLO.out.mono ?_
                rintro e w3 ⟨rfl, hw3⟩
                rw [hw3, hlo]
                clear hw3 w3
                go_wp2_with fail
                go_loopw [6, 7] (fun s6 s7 wx => wx = wr ∧ ∃ (j x : Nat), s6 = .int .i64 x ∧ s7 = .int .i64 j ∧ i ≤ j ∧ j ≤ k ∧ x = val (cutL s i j)) (fun _ s7 _ => k - (intOf s7).toNat)
                case atStart => exact ⟨rfl, i, 0, rfl, rfl, Nat.le_refl _, by omega, by rw [cut_self]; rfl⟩
                case round =>
                  obtain ⟨rfl, j, x, rfl, rfl, hij, hjk, hx⟩ := hrel
                  have HJX := Lib.hid hx
                  clear hx
                  by_cases hjlt : j < k
                  · have hjs : j < s.length := by rw [← HN.out]; omega
                    obtain ⟨cj, hcj⟩ : ∃ c, c = s[j] := ⟨_, rfl⟩
                    have hjst : j < st.size := by omega
                    have hgj : st[j] = cj := by rw [hcj]; exact st_get HST.out hjst hjs
                    have hdj : digB cj = true := by
                      refine cut_all digB s i cj ?_
                      rw [HEK.out, cut_more s (i := i) (k := j) (e := k) hij hjk (by rw [← HN.out]; omega), cut_more s (i := j) (k := j + 1) (e := k) (by omega) (by omega) (by rw [← HN.out]; omega), cut_next s (Nat.le_refl j) hjs, cut_self, hcj]
                      simp
                    have hd2 : 48 ≤ cj.toNat ∧ cj.toNat ≤ 57 := by unfold digB at hdj; simpa using hdj
                    obtain ⟨hd3, hd4⟩ := hd2
                    have HNV : Hid (val (cutL s i (j + 1)) = 10 * x + (cj.toNat - 48)) := by rw [cut_next s hij hjs, val_snoc, ← hcj, ← HJX.out]; exact rfl
                    have hnx : 10 * x + (cj.toNat - 48) ≤ 9223372036854775807 := by
                      have h1 := val_mono (cutL s i (j + 1)) (cutL s (j + 1) k)
                      rw [← cut_more s (i := i) (k := j + 1) (e := k) (by omega) (by omega) (by rw [← HN.out]; omega), HNV.out] at h1
                      exact Nat.le_trans h1 HVM.out
                    obtain ⟨dj, hdj2⟩ : ∃ v, v = cj.toNat := ⟨_, rfl⟩
                    have hgj2 : st[j].toNat = dj := by rw [hgj, hdj2]
                    rw [← hdj2] at hd3 hd4 hnx HNV
                    clear hcj hjs hgj hdj hdj2
                    go_wp2_with fail
                    go_roundw
                    case rel => exact ⟨trivial, j + 1, 10 * x + (dj - 48), congrArg (Value.int .i64) (by omega), by go_num, by omega, by omega, HNV.out.symm⟩
                    case measure => simp [intOf]; omega
                  · obtain rfl : j = k := by omega
                    go_wp2_with (refine wpList_store_row rfl 72 _ _ rfl w.heap.size #[.int .u8 2, .string ⟨#[]⟩, .int .i64 (x : Nat), .int .i64 (i : Nat), .int .i64 (j : Nat), .int .i64 0, .int .i64 0] rfl rfl 72 _ HY.out (by kernel_rfl) (by kernel_rfl) (by kernel_rfl) ?_)
                    refine bodyPost_ret (results_cell_row rfl _ _ w.heap.size 72 #[.int .u8 2, .string ⟨#[]⟩, .int .i64 (x : Nat), .int .i64 (i : Nat), .int .i64 (j : Nat), .int .i64 0, .int .i64 0] (0, 0) _ rfl (setRow_heap _ w.heap.size _ _ 72 _ HY.out) Tryz.underlying72 rfl (by kernel_rfl)) rfl ⟨by rw [HR.out, HJX.out]; rfl, below_setRow HBW.out (Nat.le_refl _) _⟩
            · have hb0 : ((v0 : Int) == 48) = false := by rw [beq_eq_false_iff_ne]; omega
              clear hz h0
              by_cases h20 : k - i = 19
              · have hbq : Op.bytesLess (cutL s i k) most19 = true ∨ (cutL s i k == most19) = true := by have h := HBG.out h20; unfold bigB at h; revert h; cases Op.bytesLess (cutL s i k) most19 <;> cases (cutL s i k == most19) <;> simp
                have HBG2 := Lib.hid hbq
                clear HBG hbq
                have hb20 : ((k : Int) - (i : Int) == 19) = true := by rw [beq_iff_eq]; omega
                have hsl := run_slice_string (P := Tryz.prog) (w := wr) 9 st .i64 .i64 (i : Nat) (k : Nat) Tryz.underlying9 (by omega) (by omega) (by omega)
                simp only [Int.toNat_natCast] at hsl
                have hex : st.extract i k = ⟨(cutL s i k).toArray⟩ := by rw [HST.out]; exact extract_cut s i k
                rw [hex] at hsl
                clear hex
                clear h20
                rcases HBG2.out with hbl | hbl
                · by_cases hin : innB ch = true
                  · have HR : Hid (numT s i = .inl (k, 9)) := by
                      unfold numT; rw [numL_next HEK.out H48.out HVM.out (by rw [← HN.out]; exact hlt)]
                      have hsk : s[k]'(by rw [← HN.out]; exact hlt) = ch := by have h := HCK.out; rw [List.getElem?_eq_getElem (by rw [← HN.out]; exact hlt)] at h; injection h
                      rw [hsk, hin]; exact rfl
                    rw [HIN.out, HDF.out] at hin
                    cases hlo : lowB ch
                    · have h95 : cv = 95 := by rw [hlo] at hin; simpa using hin
                      have hb95 : ((cv : Int) == 95) = true := by rw [h95]; rfl
                      clear hin h95
                      go_wp2_with fail
                      refine HDI.out.mono ?_
                      rintro e w3 ⟨rfl, hw3⟩
                      rw [hw3, hdi]
                      clear hw3 w3
                      go_wp2_with fail
                      refine HLO.out.mono ?_
                      rintro e w3 ⟨rfl, hw3⟩
                      rw [hw3, hlo]
                      clear hw3 w3
                      go_wp2_with fail
                      refine (wrong_any (k) 9 wr).mono ?_
                      rintro e w2 ⟨rfl, hb2⟩
                      unfold told toldV
                      have HB2 := Lib.hid (HBW.out.trans (hb2.mono HBW.out.size))
                      have HY2 : Hid (Blk w2 w.heap.size 72 #[.int .u8 0, .string ⟨#[]⟩, .int .i64 0, .int .i64 0, .int .i64 0, .int .i64 0, .int .i64 0]) := (hb2.block _ hszr).trans HY.out
                      clear hb2
                      go_wp2_with (refine wpList_store_row rfl 72 _ _ rfl w.heap.size #[.int .u8 0, .string ⟨#[]⟩, .int .i64 0, .int .i64 0, .int .i64 0, .int .i64 (k : Nat), .int .i64 9] rfl rfl 72 _ HY2.out (by kernel_rfl) (by kernel_rfl) (by kernel_rfl) ?_)
                      refine bodyPost_ret (results_cell_row rfl _ _ w.heap.size 72 #[.int .u8 0, .string ⟨#[]⟩, .int .i64 0, .int .i64 0, .int .i64 0, .int .i64 (k : Nat), .int .i64 9] (0, 0) _ rfl (setRow_heap _ w.heap.size _ _ 72 _ HY2.out) Tryz.underlying72 rfl (by kernel_rfl)) rfl ⟨by rw [HR.out]; rfl, below_setRow HB2.out (Nat.le_refl _) _⟩
                    · clear hin
                      go_wp2_with fail
                      refine HDI.out.mono ?_
                      rintro e w3 ⟨rfl, hw3⟩
                      rw [hw3, hdi]
                      clear hw3 w3
                      go_wp2_with fail
                      refine HLO.out.mono ?_
                      rintro e w3 ⟨rfl, hw3⟩
                      rw [hw3, hlo]
                      clear hw3 w3
                      go_wp2_with fail
                      refine (wrong_any (k) 9 wr).mono ?_
                      rintro e w2 ⟨rfl, hb2⟩
                      unfold told toldV
                      have HB2 := Lib.hid (HBW.out.trans (hb2.mono HBW.out.size))
                      have HY2 : Hid (Blk w2 w.heap.size 72 #[.int .u8 0, .string ⟨#[]⟩, .int .i64 0, .int .i64 0, .int .i64 0, .int .i64 0, .int .i64 0]) := (hb2.block _ hszr).trans HY.out
                      clear hb2
                      go_wp2_with (refine wpList_store_row rfl 72 _ _ rfl w.heap.size #[.int .u8 0, .string ⟨#[]⟩, .int .i64 0, .int .i64 0, .int .i64 0, .int .i64 (k : Nat), .int .i64 9] rfl rfl 72 _ HY2.out (by kernel_rfl) (by kernel_rfl) (by kernel_rfl) ?_)
                      refine bodyPost_ret (results_cell_row rfl _ _ w.heap.size 72 #[.int .u8 0, .string ⟨#[]⟩, .int .i64 0, .int .i64 0, .int .i64 0, .int .i64 (k : Nat), .int .i64 9] (0, 0) _ rfl (setRow_heap _ w.heap.size _ _ 72 _ HY2.out) Tryz.underlying72 rfl (by kernel_rfl)) rfl ⟨by rw [HR.out]; rfl, below_setRow HB2.out (Nat.le_refl _) _⟩
                  · have hin : innB ch = false := by simpa using hin
                    have HR : Hid (numT s i = .inr (⟨2, [], val (cutL s i k), i⟩, k)) := by
                      unfold numT; rw [numL_next HEK.out H48.out HVM.out (by rw [← HN.out]; exact hlt)]
                      have hsk : s[k]'(by rw [← HN.out]; exact hlt) = ch := by have h := HCK.out; rw [List.getElem?_eq_getElem (by rw [← HN.out]; exact hlt)] at h; injection h
                      rw [hsk, hin]; exact rfl
                    rw [HIN.out, HDF.out] at hin
                    have hlo : lowB ch = false := by cases h : lowB ch <;> simp_all
                    have h95 : ¬ cv = 95 := by rw [hlo] at hin; simpa using hin
                    have hb95 : ((cv : Int) == 95) = false := by rw [beq_eq_false_iff_ne]; omega
                    clear hin h95
                    go_wp2_with fail
                    refine HDI.out.mono ?_
                    rintro e w3 ⟨rfl, hw3⟩
                    rw [hw3, hdi]
                    clear hw3 w3
                    go_wp2_with fail
                    refine HLO.out.mono ?_
                    rintro e w3 ⟨rfl, hw3⟩
                    rw [hw3, hlo]
                    clear hw3 w3
                    go_wp2_with fail
                    go_loopw [6, 7] (fun s6 s7 wx => wx = wr ∧ ∃ (j x : Nat), s6 = .int .i64 x ∧ s7 = .int .i64 j ∧ i ≤ j ∧ j ≤ k ∧ x = val (cutL s i j)) (fun _ s7 _ => k - (intOf s7).toNat)
                    case atStart => exact ⟨rfl, i, 0, rfl, rfl, Nat.le_refl _, by omega, by rw [cut_self]; rfl⟩
                    case round =>
                      obtain ⟨rfl, j, x, rfl, rfl, hij, hjk, hx⟩ := hrel
                      have HJX := Lib.hid hx
                      clear hx
                      by_cases hjlt : j < k
                      · have hjs : j < s.length := by rw [← HN.out]; omega
                        obtain ⟨cj, hcj⟩ : ∃ c, c = s[j] := ⟨_, rfl⟩
                        have hjst : j < st.size := by omega
                        have hgj : st[j] = cj := by rw [hcj]; exact st_get HST.out hjst hjs
                        have hdj : digB cj = true := by
                          refine cut_all digB s i cj ?_
                          rw [HEK.out, cut_more s (i := i) (k := j) (e := k) hij hjk (by rw [← HN.out]; omega), cut_more s (i := j) (k := j + 1) (e := k) (by omega) (by omega) (by rw [← HN.out]; omega), cut_next s (Nat.le_refl j) hjs, cut_self, hcj]
                          simp
                        have hd2 : 48 ≤ cj.toNat ∧ cj.toNat ≤ 57 := by unfold digB at hdj; simpa using hdj
                        obtain ⟨hd3, hd4⟩ := hd2
                        have HNV : Hid (val (cutL s i (j + 1)) = 10 * x + (cj.toNat - 48)) := by rw [cut_next s hij hjs, val_snoc, ← hcj, ← HJX.out]; exact rfl
                        have hnx : 10 * x + (cj.toNat - 48) ≤ 9223372036854775807 := by
                          have h1 := val_mono (cutL s i (j + 1)) (cutL s (j + 1) k)
                          rw [← cut_more s (i := i) (k := j + 1) (e := k) (by omega) (by omega) (by rw [← HN.out]; omega), HNV.out] at h1
                          exact Nat.le_trans h1 HVM.out
                        obtain ⟨dj, hdj2⟩ : ∃ v, v = cj.toNat := ⟨_, rfl⟩
                        have hgj2 : st[j].toNat = dj := by rw [hgj, hdj2]
                        rw [← hdj2] at hd3 hd4 hnx HNV
                        clear hcj hjs hgj hdj hdj2
                        go_wp2_with fail
                        go_roundw
                        case rel => exact ⟨trivial, j + 1, 10 * x + (dj - 48), congrArg (Value.int .i64) (by omega), by go_num, by omega, by omega, HNV.out.symm⟩
                        case measure => simp [intOf]; omega
                      · obtain rfl : j = k := by omega
                        go_wp2_with (refine wpList_store_row rfl 72 _ _ rfl w.heap.size #[.int .u8 2, .string ⟨#[]⟩, .int .i64 (x : Nat), .int .i64 (i : Nat), .int .i64 (j : Nat), .int .i64 0, .int .i64 0] rfl rfl 72 _ HY.out (by kernel_rfl) (by kernel_rfl) (by kernel_rfl) ?_)
                        refine bodyPost_ret (results_cell_row rfl _ _ w.heap.size 72 #[.int .u8 2, .string ⟨#[]⟩, .int .i64 (x : Nat), .int .i64 (i : Nat), .int .i64 (j : Nat), .int .i64 0, .int .i64 0] (0, 0) _ rfl (setRow_heap _ w.heap.size _ _ 72 _ HY.out) Tryz.underlying72 rfl (by kernel_rfl)) rfl ⟨by rw [HR.out, HJX.out]; rfl, below_setRow HBW.out (Nat.le_refl _) _⟩
                · by_cases hin : innB ch = true
                  · have HR : Hid (numT s i = .inl (k, 9)) := by
                      unfold numT; rw [numL_next HEK.out H48.out HVM.out (by rw [← HN.out]; exact hlt)]
                      have hsk : s[k]'(by rw [← HN.out]; exact hlt) = ch := by have h := HCK.out; rw [List.getElem?_eq_getElem (by rw [← HN.out]; exact hlt)] at h; injection h
                      rw [hsk, hin]; exact rfl
                    rw [HIN.out, HDF.out] at hin
                    cases hlo : lowB ch
                    · have h95 : cv = 95 := by rw [hlo] at hin; simpa using hin
                      have hb95 : ((cv : Int) == 95) = true := by rw [h95]; rfl
                      clear hin h95
                      go_wp2_with fail
                      refine HDI.out.mono ?_
                      rintro e w3 ⟨rfl, hw3⟩
                      rw [hw3, hdi]
                      clear hw3 w3
                      go_wp2_with fail
                      refine HLO.out.mono ?_
                      rintro e w3 ⟨rfl, hw3⟩
                      rw [hw3, hlo]
                      clear hw3 w3
                      go_wp2_with fail
                      refine (wrong_any (k) 9 wr).mono ?_
                      rintro e w2 ⟨rfl, hb2⟩
                      unfold told toldV
                      have HB2 := Lib.hid (HBW.out.trans (hb2.mono HBW.out.size))
                      have HY2 : Hid (Blk w2 w.heap.size 72 #[.int .u8 0, .string ⟨#[]⟩, .int .i64 0, .int .i64 0, .int .i64 0, .int .i64 0, .int .i64 0]) := (hb2.block _ hszr).trans HY.out
                      clear hb2
                      go_wp2_with (refine wpList_store_row rfl 72 _ _ rfl w.heap.size #[.int .u8 0, .string ⟨#[]⟩, .int .i64 0, .int .i64 0, .int .i64 0, .int .i64 (k : Nat), .int .i64 9] rfl rfl 72 _ HY2.out (by kernel_rfl) (by kernel_rfl) (by kernel_rfl) ?_)
                      refine bodyPost_ret (results_cell_row rfl _ _ w.heap.size 72 #[.int .u8 0, .string ⟨#[]⟩, .int .i64 0, .int .i64 0, .int .i64 0, .int .i64 (k : Nat), .int .i64 9] (0, 0) _ rfl (setRow_heap _ w.heap.size _ _ 72 _ HY2.out) Tryz.underlying72 rfl (by kernel_rfl)) rfl ⟨by rw [HR.out]; rfl, below_setRow HB2.out (Nat.le_refl _) _⟩
                    · clear hin
                      go_wp2_with fail
                      refine HDI.out.mono ?_
                      rintro e w3 ⟨rfl, hw3⟩
                      rw [hw3, hdi]
                      clear hw3 w3
                      go_wp2_with fail
                      refine HLO.out.mono ?_
                      rintro e w3 ⟨rfl, hw3⟩
                      rw [hw3, hlo]
                      clear hw3 w3
                      go_wp2_with fail
                      refine (wrong_any (k) 9 wr).mono ?_
                      rintro e w2 ⟨rfl, hb2⟩
                      unfold told toldV
                      have HB2 := Lib.hid (HBW.out.trans (hb2.mono HBW.out.size))
                      have HY2 : Hid (Blk w2 w.heap.size 72 #[.int .u8 0, .string ⟨#[]⟩, .int .i64 0, .int .i64 0, .int .i64 0, .int .i64 0, .int .i64 0]) := (hb2.block _ hszr).trans HY.out
                      clear hb2
                      go_wp2_with (refine wpList_store_row rfl 72 _ _ rfl w.heap.size #[.int .u8 0, .string ⟨#[]⟩, .int .i64 0, .int .i64 0, .int .i64 0, .int .i64 (k : Nat), .int .i64 9] rfl rfl 72 _ HY2.out (by kernel_rfl) (by kernel_rfl) (by kernel_rfl) ?_)
                      refine bodyPost_ret (results_cell_row rfl _ _ w.heap.size 72 #[.int .u8 0, .string ⟨#[]⟩, .int .i64 0, .int .i64 0, .int .i64 0, .int .i64 (k : Nat), .int .i64 9] (0, 0) _ rfl (setRow_heap _ w.heap.size _ _ 72 _ HY2.out) Tryz.underlying72 rfl (by kernel_rfl)) rfl ⟨by rw [HR.out]; rfl, below_setRow HB2.out (Nat.le_refl _) _⟩
                  · have hin : innB ch = false := by simpa using hin
                    have HR : Hid (numT s i = .inr (⟨2, [], val (cutL s i k), i⟩, k)) := by
                      unfold numT; rw [numL_next HEK.out H48.out HVM.out (by rw [← HN.out]; exact hlt)]
                      have hsk : s[k]'(by rw [← HN.out]; exact hlt) = ch := by have h := HCK.out; rw [List.getElem?_eq_getElem (by rw [← HN.out]; exact hlt)] at h; injection h
                      rw [hsk, hin]; exact rfl
                    rw [HIN.out, HDF.out] at hin
                    have hlo : lowB ch = false := by cases h : lowB ch <;> simp_all
                    have h95 : ¬ cv = 95 := by rw [hlo] at hin; simpa using hin
                    have hb95 : ((cv : Int) == 95) = false := by rw [beq_eq_false_iff_ne]; omega
                    clear hin h95
                    go_wp2_with fail
                    refine HDI.out.mono ?_
                    rintro e w3 ⟨rfl, hw3⟩
                    rw [hw3, hdi]
                    clear hw3 w3
                    go_wp2_with fail
                    refine HLO.out.mono ?_
                    rintro e w3 ⟨rfl, hw3⟩
                    rw [hw3, hlo]
                    clear hw3 w3
                    go_wp2_with fail
                    go_loopw [6, 7] (fun s6 s7 wx => wx = wr ∧ ∃ (j x : Nat), s6 = .int .i64 x ∧ s7 = .int .i64 j ∧ i ≤ j ∧ j ≤ k ∧ x = val (cutL s i j)) (fun _ s7 _ => k - (intOf s7).toNat)
                    case atStart => exact ⟨rfl, i, 0, rfl, rfl, Nat.le_refl _, by omega, by rw [cut_self]; rfl⟩
                    case round =>
                      obtain ⟨rfl, j, x, rfl, rfl, hij, hjk, hx⟩ := hrel
                      have HJX := Lib.hid hx
                      clear hx
                      by_cases hjlt : j < k
                      · have hjs : j < s.length := by rw [← HN.out]; omega
                        obtain ⟨cj, hcj⟩ : ∃ c, c = s[j] := ⟨_, rfl⟩
                        have hjst : j < st.size := by omega
                        have hgj : st[j] = cj := by rw [hcj]; exact st_get HST.out hjst hjs
                        have hdj : digB cj = true := by
                          refine cut_all digB s i cj ?_
                          rw [HEK.out, cut_more s (i := i) (k := j) (e := k) hij hjk (by rw [← HN.out]; omega), cut_more s (i := j) (k := j + 1) (e := k) (by omega) (by omega) (by rw [← HN.out]; omega), cut_next s (Nat.le_refl j) hjs, cut_self, hcj]
                          simp
                        have hd2 : 48 ≤ cj.toNat ∧ cj.toNat ≤ 57 := by unfold digB at hdj; simpa using hdj
                        obtain ⟨hd3, hd4⟩ := hd2
                        have HNV : Hid (val (cutL s i (j + 1)) = 10 * x + (cj.toNat - 48)) := by rw [cut_next s hij hjs, val_snoc, ← hcj, ← HJX.out]; exact rfl
                        have hnx : 10 * x + (cj.toNat - 48) ≤ 9223372036854775807 := by
                          have h1 := val_mono (cutL s i (j + 1)) (cutL s (j + 1) k)
                          rw [← cut_more s (i := i) (k := j + 1) (e := k) (by omega) (by omega) (by rw [← HN.out]; omega), HNV.out] at h1
                          exact Nat.le_trans h1 HVM.out
                        obtain ⟨dj, hdj2⟩ : ∃ v, v = cj.toNat := ⟨_, rfl⟩
                        have hgj2 : st[j].toNat = dj := by rw [hgj, hdj2]
                        rw [← hdj2] at hd3 hd4 hnx HNV
                        clear hcj hjs hgj hdj hdj2
                        go_wp2_with fail
                        go_roundw
                        case rel => exact ⟨trivial, j + 1, 10 * x + (dj - 48), congrArg (Value.int .i64) (by omega), by go_num, by omega, by omega, HNV.out.symm⟩
                        case measure => simp [intOf]; omega
                      · obtain rfl : j = k := by omega
                        go_wp2_with (refine wpList_store_row rfl 72 _ _ rfl w.heap.size #[.int .u8 2, .string ⟨#[]⟩, .int .i64 (x : Nat), .int .i64 (i : Nat), .int .i64 (j : Nat), .int .i64 0, .int .i64 0] rfl rfl 72 _ HY.out (by kernel_rfl) (by kernel_rfl) (by kernel_rfl) ?_)
                        refine bodyPost_ret (results_cell_row rfl _ _ w.heap.size 72 #[.int .u8 2, .string ⟨#[]⟩, .int .i64 (x : Nat), .int .i64 (i : Nat), .int .i64 (j : Nat), .int .i64 0, .int .i64 0] (0, 0) _ rfl (setRow_heap _ w.heap.size _ _ 72 _ HY.out) Tryz.underlying72 rfl (by kernel_rfl)) rfl ⟨by rw [HR.out, HJX.out]; rfl, below_setRow HBW.out (Nat.le_refl _) _⟩
              · have hb20 : ((k : Int) - (i : Int) == 19) = false := by rw [beq_eq_false_iff_ne]; omega
                by_cases hin : innB ch = true
                · have HR : Hid (numT s i = .inl (k, 9)) := by
                    unfold numT; rw [numL_next HEK.out H48.out HVM.out (by rw [← HN.out]; exact hlt)]
                    have hsk : s[k]'(by rw [← HN.out]; exact hlt) = ch := by have h := HCK.out; rw [List.getElem?_eq_getElem (by rw [← HN.out]; exact hlt)] at h; injection h
                    rw [hsk, hin]; exact rfl
                  rw [HIN.out, HDF.out] at hin
                  cases hlo : lowB ch
                  · have h95 : cv = 95 := by rw [hlo] at hin; simpa using hin
                    have hb95 : ((cv : Int) == 95) = true := by rw [h95]; rfl
                    clear hin h95
                    go_wp2_with fail
                    refine HDI.out.mono ?_
                    rintro e w3 ⟨rfl, hw3⟩
                    rw [hw3, hdi]
                    clear hw3 w3
                    go_wp2_with fail
                    refine HLO.out.mono ?_
                    rintro e w3 ⟨rfl, hw3⟩
                    rw [hw3, hlo]
                    clear hw3 w3
                    go_wp2_with fail
                    refine (wrong_any (k) 9 wr).mono ?_
                    rintro e w2 ⟨rfl, hb2⟩
                    unfold told toldV
                    have HB2 := Lib.hid (HBW.out.trans (hb2.mono HBW.out.size))
                    have HY2 : Hid (Blk w2 w.heap.size 72 #[.int .u8 0, .string ⟨#[]⟩, .int .i64 0, .int .i64 0, .int .i64 0, .int .i64 0, .int .i64 0]) := (hb2.block _ hszr).trans HY.out
                    clear hb2
                    go_wp2_with (refine wpList_store_row rfl 72 _ _ rfl w.heap.size #[.int .u8 0, .string ⟨#[]⟩, .int .i64 0, .int .i64 0, .int .i64 0, .int .i64 (k : Nat), .int .i64 9] rfl rfl 72 _ HY2.out (by kernel_rfl) (by kernel_rfl) (by kernel_rfl) ?_)
                    refine bodyPost_ret (results_cell_row rfl _ _ w.heap.size 72 #[.int .u8 0, .string ⟨#[]⟩, .int .i64 0, .int .i64 0, .int .i64 0, .int .i64 (k : Nat), .int .i64 9] (0, 0) _ rfl (setRow_heap _ w.heap.size _ _ 72 _ HY2.out) Tryz.underlying72 rfl (by kernel_rfl)) rfl ⟨by rw [HR.out]; rfl, below_setRow HB2.out (Nat.le_refl _) _⟩
                  · clear hin
                    go_wp2_with fail
                    refine HDI.out.mono ?_
                    rintro e w3 ⟨rfl, hw3⟩
                    rw [hw3, hdi]
                    clear hw3 w3
                    go_wp2_with fail
                    refine HLO.out.mono ?_
                    rintro e w3 ⟨rfl, hw3⟩
                    rw [hw3, hlo]
                    clear hw3 w3
                    go_wp2_with fail
                    refine (wrong_any (k) 9 wr).mono ?_
                    rintro e w2 ⟨rfl, hb2⟩
                    unfold told toldV
                    have HB2 := Lib.hid (HBW.out.trans (hb2.mono HBW.out.size))
                    have HY2 : Hid (Blk w2 w.heap.size 72 #[.int .u8 0, .string ⟨#[]⟩, .int .i64 0, .int .i64 0, .int .i64 0, .int .i64 0, .int .i64 0]) := (hb2.block _ hszr).trans HY.out
                    clear hb2
                    go_wp2_with (refine wpList_store_row rfl 72 _ _ rfl w.heap.size #[.int .u8 0, .string ⟨#[]⟩, .int .i64 0, .int .i64 0, .int .i64 0, .int .i64 (k : Nat), .int .i64 9] rfl rfl 72 _ HY2.out (by kernel_rfl) (by kernel_rfl) (by kernel_rfl) ?_)
                    refine bodyPost_ret (results_cell_row rfl _ _ w.heap.size 72 #[.int .u8 0, .string ⟨#[]⟩, .int .i64 0, .int .i64 0, .int .i64 0, .int .i64 (k : Nat), .int .i64 9] (0, 0) _ rfl (setRow_heap _ w.heap.size _ _ 72 _ HY2.out) Tryz.underlying72 rfl (by kernel_rfl)) rfl ⟨by rw [HR.out]; rfl, below_setRow HB2.out (Nat.le_refl _) _⟩
                · have hin : innB ch = false := by simpa using hin
                  have HR : Hid (numT s i = .inr (⟨2, [], val (cutL s i k), i⟩, k)) := by
                    unfold numT; rw [numL_next HEK.out H48.out HVM.out (by rw [← HN.out]; exact hlt)]
                    have hsk : s[k]'(by rw [← HN.out]; exact hlt) = ch := by have h := HCK.out; rw [List.getElem?_eq_getElem (by rw [← HN.out]; exact hlt)] at h; injection h
                    rw [hsk, hin]; exact rfl
                  rw [HIN.out, HDF.out] at hin
                  have hlo : lowB ch = false := by cases h : lowB ch <;> simp_all
                  have h95 : ¬ cv = 95 := by rw [hlo] at hin; simpa using hin
                  have hb95 : ((cv : Int) == 95) = false := by rw [beq_eq_false_iff_ne]; omega
                  clear hin h95
                  go_wp2_with fail
                  refine HDI.out.mono ?_
                  rintro e w3 ⟨rfl, hw3⟩
                  rw [hw3, hdi]
                  clear hw3 w3
                  go_wp2_with fail
                  refine HLO.out.mono ?_
                  rintro e w3 ⟨rfl, hw3⟩
                  rw [hw3, hlo]
                  clear hw3 w3
                  go_wp2_with fail
                  go_loopw [6, 7] (fun s6 s7 wx => wx = wr ∧ ∃ (j x : Nat), s6 = .int .i64 x ∧ s7 = .int .i64 j ∧ i ≤ j ∧ j ≤ k ∧ x = val (cutL s i j)) (fun _ s7 _ => k - (intOf s7).toNat)
                  case atStart => exact ⟨rfl, i, 0, rfl, rfl, Nat.le_refl _, by omega, by rw [cut_self]; rfl⟩
                  case round =>
                    obtain ⟨rfl, j, x, rfl, rfl, hij, hjk, hx⟩ := hrel
                    have HJX := Lib.hid hx
                    clear hx
                    by_cases hjlt : j < k
                    · have hjs : j < s.length := by rw [← HN.out]; omega
                      obtain ⟨cj, hcj⟩ : ∃ c, c = s[j] := ⟨_, rfl⟩
                      have hjst : j < st.size := by omega
                      have hgj : st[j] = cj := by rw [hcj]; exact st_get HST.out hjst hjs
                      have hdj : digB cj = true := by
                        refine cut_all digB s i cj ?_
                        rw [HEK.out, cut_more s (i := i) (k := j) (e := k) hij hjk (by rw [← HN.out]; omega), cut_more s (i := j) (k := j + 1) (e := k) (by omega) (by omega) (by rw [← HN.out]; omega), cut_next s (Nat.le_refl j) hjs, cut_self, hcj]
                        simp
                      have hd2 : 48 ≤ cj.toNat ∧ cj.toNat ≤ 57 := by unfold digB at hdj; simpa using hdj
                      obtain ⟨hd3, hd4⟩ := hd2
                      have HNV : Hid (val (cutL s i (j + 1)) = 10 * x + (cj.toNat - 48)) := by rw [cut_next s hij hjs, val_snoc, ← hcj, ← HJX.out]; exact rfl
                      have hnx : 10 * x + (cj.toNat - 48) ≤ 9223372036854775807 := by
                        have h1 := val_mono (cutL s i (j + 1)) (cutL s (j + 1) k)
                        rw [← cut_more s (i := i) (k := j + 1) (e := k) (by omega) (by omega) (by rw [← HN.out]; omega), HNV.out] at h1
                        exact Nat.le_trans h1 HVM.out
                      obtain ⟨dj, hdj2⟩ : ∃ v, v = cj.toNat := ⟨_, rfl⟩
                      have hgj2 : st[j].toNat = dj := by rw [hgj, hdj2]
                      rw [← hdj2] at hd3 hd4 hnx HNV
                      clear hcj hjs hgj hdj hdj2
                      go_wp2_with fail
                      go_roundw
                      case rel => exact ⟨trivial, j + 1, 10 * x + (dj - 48), congrArg (Value.int .i64) (by omega), by go_num, by omega, by omega, HNV.out.symm⟩
                      case measure => simp [intOf]; omega
                    · obtain rfl : j = k := by omega
                      go_wp2_with (refine wpList_store_row rfl 72 _ _ rfl w.heap.size #[.int .u8 2, .string ⟨#[]⟩, .int .i64 (x : Nat), .int .i64 (i : Nat), .int .i64 (j : Nat), .int .i64 0, .int .i64 0] rfl rfl 72 _ HY.out (by kernel_rfl) (by kernel_rfl) (by kernel_rfl) ?_)
                      refine bodyPost_ret (results_cell_row rfl _ _ w.heap.size 72 #[.int .u8 2, .string ⟨#[]⟩, .int .i64 (x : Nat), .int .i64 (i : Nat), .int .i64 (j : Nat), .int .i64 0, .int .i64 0] (0, 0) _ rfl (setRow_heap _ w.heap.size _ _ 72 _ HY.out) Tryz.underlying72 rfl (by kernel_rfl)) rfl ⟨by rw [HR.out, HJX.out]; rfl, below_setRow HBW.out (Nat.le_refl _) _⟩
      · have HS := Lib.hid (HST2.out hdi)
        have hkE3 : k + 1 ≤ E := by rw [← HS.out]; exact scan_ge _ _ _
        go_wp2_with fail
        refine HDI.out.mono ?_
        rintro e w3 ⟨rfl, hw3⟩
        rw [hw3, hdi]
        clear hw3 w3
        go_wp2_with fail
        go_roundw
        case rel => exact ⟨⟨k + 1, by go_num, by omega, hkE3, HS.out⟩, HX.out.2⟩
        case measure => simp [intOf]; omega
    · have hkE2 : k = E := by omega
      have hbw : Below w.heap.size w wr := by rw [HX.out.2]; exact (Below.refl _ _).alloc (Nat.le_refl _) _
      have HBW := Lib.hid hbw
      have hy : Blk wr w.heap.size 72 #[.int .u8 0, .string ⟨#[]⟩, .int .i64 0, .int .i64 0, .int .i64 0, .int .i64 0, .int .i64 0] := by rw [HX.out.2]; exact Blk.new w 72 _
      have HY := Lib.hid hy
      have hszr : w.heap.size < wr.heap.size := hy.lt
      have HEK : Hid (scan digB s i = k) := by rw [← HE.out]; exact hkE2.symm
      have hik2 : i + 1 ≤ k := by omega
      clear hbw hy hkE2
      by_cases hz : v0 = 48 ∧ i + 1 < k
      · obtain ⟨hz1, hz2⟩ := hz
        have HR : Hid (numT s i = .inl (i + 1, 9)) := by unfold numT; rw [numL_zero (HC48.out.2 hz1) (by rw [HEK.out]; exact hz2)]; exact rfl
        have hb0 : ((v0 : Int) == 48) = true := by rw [hz1]; rfl
        have hb1 : decide ((i : Int) + 1 < (k : Int)) = true := decide_eq_true (by omega)
        clear hz1
        go_wp2_with fail
        refine (wrong_any (i + 1) 9 wr).mono ?_
        rintro e w2 ⟨rfl, hb2⟩
        unfold told toldV
        have HB2 := Lib.hid (HBW.out.trans (hb2.mono HBW.out.size))
        have HY2 : Hid (Blk w2 w.heap.size 72 #[.int .u8 0, .string ⟨#[]⟩, .int .i64 0, .int .i64 0, .int .i64 0, .int .i64 0, .int .i64 0]) := (hb2.block _ hszr).trans HY.out
        clear hb2
        go_wp2_with (refine wpList_store_row rfl 72 _ _ rfl w.heap.size #[.int .u8 0, .string ⟨#[]⟩, .int .i64 0, .int .i64 0, .int .i64 0, .int .i64 (i + 1 : Nat), .int .i64 9] rfl rfl 72 _ HY2.out (by kernel_rfl) (by kernel_rfl) (by kernel_rfl) ?_)
        refine bodyPost_ret (results_cell_row rfl _ _ w.heap.size 72 #[.int .u8 0, .string ⟨#[]⟩, .int .i64 0, .int .i64 0, .int .i64 0, .int .i64 (i + 1 : Nat), .int .i64 9] (0, 0) _ rfl (setRow_heap _ w.heap.size _ _ 72 _ HY2.out) Tryz.underlying72 rfl (by kernel_rfl)) rfl ⟨by rw [HR.out]; rfl, below_setRow HB2.out (Nat.le_refl _) _⟩
      · have HZ : Hid (¬ (s[i]? = some 48 ∧ i + 1 < scan digB s i)) := fun h => hz ⟨HC48.out.1 h.1, by have := h.2; rw [HEK.out] at this; exact this⟩
        have H48 : Hid (i + 1 < k → s[i]? ≠ some 48) := fun h1 h2 => hz ⟨HC48.out.1 h2, h1⟩
        by_cases hlong : 9223372036854775807 < val (cutL s i k)
        · have HR : Hid (numT s i = .inl (i, 2)) := by unfold numT; rw [numL_long HZ.out (by rw [HEK.out]; exact hlong)]; exact rfl
          have hle : 19 ≤ k - i := by
            rcases Nat.lt_or_ge (k - i) 19 with h | h
            · have := big_short HEK.out h; omega
            · exact h
          have hb0 : ((v0 : Int) == 48) = false := by rw [beq_eq_false_iff_ne]; intro h; exact hz ⟨by omega, by omega⟩
          clear hz
          by_cases h19 : 19 < k - i
          · have hb19 : decide ((19 : Int) < (k : Int) - (i : Int)) = true := decide_eq_true (by omega)
            clear hlong
            go_wp2_with fail
            refine (wrong_any (i) 2 wr).mono ?_
            rintro e w2 ⟨rfl, hb2⟩
            unfold told toldV
            have HB2 := Lib.hid (HBW.out.trans (hb2.mono HBW.out.size))
            have HY2 : Hid (Blk w2 w.heap.size 72 #[.int .u8 0, .string ⟨#[]⟩, .int .i64 0, .int .i64 0, .int .i64 0, .int .i64 0, .int .i64 0]) := (hb2.block _ hszr).trans HY.out
            clear hb2
            go_wp2_with (refine wpList_store_row rfl 72 _ _ rfl w.heap.size #[.int .u8 0, .string ⟨#[]⟩, .int .i64 0, .int .i64 0, .int .i64 0, .int .i64 (i : Nat), .int .i64 2] rfl rfl 72 _ HY2.out (by kernel_rfl) (by kernel_rfl) (by kernel_rfl) ?_)
            refine bodyPost_ret (results_cell_row rfl _ _ w.heap.size 72 #[.int .u8 0, .string ⟨#[]⟩, .int .i64 0, .int .i64 0, .int .i64 0, .int .i64 (i : Nat), .int .i64 2] (0, 0) _ rfl (setRow_heap _ w.heap.size _ _ 72 _ HY2.out) Tryz.underlying72 rfl (by kernel_rfl)) rfl ⟨by rw [HR.out]; rfl, below_setRow HB2.out (Nat.le_refl _) _⟩
          · have HBG : Hid (bigB (cutL s i k) = true) := by rw [big_19 HEK.out (by omega)]; exact decide_eq_true hlong
            clear hlong
            have hbb : Op.bytesLess (cutL s i k) most19 = false ∧ (cutL s i k == most19) = false := by have h := HBG.out; unfold bigB at h; simpa [Bool.or_eq_false_iff] using h
            obtain ⟨hbl, hbe⟩ := hbb
            have hb19 : decide ((19 : Int) < (k : Int) - (i : Int)) = false := decide_eq_false (by omega)
            have hb20 : ((k : Int) - (i : Int) == 19) = true := by rw [beq_iff_eq]; omega
            have hsl := run_slice_string (P := Tryz.prog) (w := wr) 9 st .i64 .i64 (i : Nat) (k : Nat) Tryz.underlying9 (by omega) (by omega) (by omega)
            simp only [Int.toNat_natCast] at hsl
            have hex : st.extract i k = ⟨(cutL s i k).toArray⟩ := by rw [HST.out]; exact extract_cut s i k
            rw [hex] at hsl
            clear hex
            go_wp2_with fail
            refine (wrong_any (i) 2 wr).mono ?_
            rintro e w2 ⟨rfl, hb2⟩
            unfold told toldV
            have HB2 := Lib.hid (HBW.out.trans (hb2.mono HBW.out.size))
            have HY2 : Hid (Blk w2 w.heap.size 72 #[.int .u8 0, .string ⟨#[]⟩, .int .i64 0, .int .i64 0, .int .i64 0, .int .i64 0, .int .i64 0]) := (hb2.block _ hszr).trans HY.out
            clear hb2
            go_wp2_with (refine wpList_store_row rfl 72 _ _ rfl w.heap.size #[.int .u8 0, .string ⟨#[]⟩, .int .i64 0, .int .i64 0, .int .i64 0, .int .i64 (i : Nat), .int .i64 2] rfl rfl 72 _ HY2.out (by kernel_rfl) (by kernel_rfl) (by kernel_rfl) ?_)
            refine bodyPost_ret (results_cell_row rfl _ _ w.heap.size 72 #[.int .u8 0, .string ⟨#[]⟩, .int .i64 0, .int .i64 0, .int .i64 0, .int .i64 (i : Nat), .int .i64 2] (0, 0) _ rfl (setRow_heap _ w.heap.size _ _ 72 _ HY2.out) Tryz.underlying72 rfl (by kernel_rfl)) rfl ⟨by rw [HR.out]; rfl, below_setRow HB2.out (Nat.le_refl _) _⟩
        · have hvm : val (cutL s i k) ≤ 9223372036854775807 := by omega
          have HVM := Lib.hid hvm
          clear hvm
          have h19 : k - i ≤ 19 := by
            rcases Nat.lt_or_ge 19 (k - i) with h | h
            · have := big_long HEK.out (H48.out (by omega)) h; omega
            · exact h
          have HBG : Hid (k - i = 19 → bigB (cutL s i k) = false) := fun h => by rw [big_19 HEK.out h]; exact decide_eq_false hlong
          clear hlong
          have hb19 : decide ((19 : Int) < (k : Int) - (i : Int)) = false := decide_eq_false (by omega)
          by_cases h0 : v0 = 48
          · have hki : k = i + 1 := by rcases Nat.lt_or_ge (i + 1) k with h | h; exact absurd ⟨h0, h⟩ hz; omega
            have hb0 : ((v0 : Int) == 48) = true := by rw [h0]; rfl
            have hb1 : decide ((i : Int) + 1 < (k : Int)) = false := decide_eq_false (by omega)
            have hb20 : ((k : Int) - (i : Int) == 19) = false := by rw [beq_eq_false_iff_ne]; omega
            clear hz h0 hki
            have HR : Hid (numT s i = .inr (⟨2, [], val (cutL s i k), i⟩, k)) := by unfold numT; rw [numL_end HEK.out H48.out HVM.out (by rw [← HN.out]; omega)]; exact rfl
            go_wp2_with fail
            go_loopw [6, 7] (fun s6 s7 wx => wx = wr ∧ ∃ (j x : Nat), s6 = .int .i64 x ∧ s7 = .int .i64 j ∧ i ≤ j ∧ j ≤ k ∧ x = val (cutL s i j)) (fun _ s7 _ => k - (intOf s7).toNat)
            case atStart => exact ⟨rfl, i, 0, rfl, rfl, Nat.le_refl _, by omega, by rw [cut_self]; rfl⟩
            case round =>
              obtain ⟨rfl, j, x, rfl, rfl, hij, hjk, hx⟩ := hrel
              have HJX := Lib.hid hx
              clear hx
              by_cases hjlt : j < k
              · have hjs : j < s.length := by rw [← HN.out]; omega
                obtain ⟨cj, hcj⟩ : ∃ c, c = s[j] := ⟨_, rfl⟩
                have hjst : j < st.size := by omega
                have hgj : st[j] = cj := by rw [hcj]; exact st_get HST.out hjst hjs
                have hdj : digB cj = true := by
                  refine cut_all digB s i cj ?_
                  rw [HEK.out, cut_more s (i := i) (k := j) (e := k) hij hjk (by rw [← HN.out]; omega), cut_more s (i := j) (k := j + 1) (e := k) (by omega) (by omega) (by rw [← HN.out]; omega), cut_next s (Nat.le_refl j) hjs, cut_self, hcj]
                  simp
                have hd2 : 48 ≤ cj.toNat ∧ cj.toNat ≤ 57 := by unfold digB at hdj; simpa using hdj
                obtain ⟨hd3, hd4⟩ := hd2
                have HNV : Hid (val (cutL s i (j + 1)) = 10 * x + (cj.toNat - 48)) := by rw [cut_next s hij hjs, val_snoc, ← hcj, ← HJX.out]; exact rfl
                have hnx : 10 * x + (cj.toNat - 48) ≤ 9223372036854775807 := by
                  have h1 := val_mono (cutL s i (j + 1)) (cutL s (j + 1) k)
                  rw [← cut_more s (i := i) (k := j + 1) (e := k) (by omega) (by omega) (by rw [← HN.out]; omega), HNV.out] at h1
                  exact Nat.le_trans h1 HVM.out
                obtain ⟨dj, hdj2⟩ : ∃ v, v = cj.toNat := ⟨_, rfl⟩
                have hgj2 : st[j].toNat = dj := by rw [hgj, hdj2]
                rw [← hdj2] at hd3 hd4 hnx HNV
                clear hcj hjs hgj hdj hdj2
                go_wp2_with fail
                go_roundw
                case rel => exact ⟨trivial, j + 1, 10 * x + (dj - 48), congrArg (Value.int .i64) (by omega), by go_num, by omega, by omega, HNV.out.symm⟩
                case measure => simp [intOf]; omega
              · obtain rfl : j = k := by omega
                go_wp2_with (refine wpList_store_row rfl 72 _ _ rfl w.heap.size #[.int .u8 2, .string ⟨#[]⟩, .int .i64 (x : Nat), .int .i64 (i : Nat), .int .i64 (j : Nat), .int .i64 0, .int .i64 0] rfl rfl 72 _ HY.out (by kernel_rfl) (by kernel_rfl) (by kernel_rfl) ?_)
                refine bodyPost_ret (results_cell_row rfl _ _ w.heap.size 72 #[.int .u8 2, .string ⟨#[]⟩, .int .i64 (x : Nat), .int .i64 (i : Nat), .int .i64 (j : Nat), .int .i64 0, .int .i64 0] (0, 0) _ rfl (setRow_heap _ w.heap.size _ _ 72 _ HY.out) Tryz.underlying72 rfl (by kernel_rfl)) rfl ⟨by rw [HR.out, HJX.out]; rfl, below_setRow HBW.out (Nat.le_refl _) _⟩
          · have hb0 : ((v0 : Int) == 48) = false := by rw [beq_eq_false_iff_ne]; omega
            clear hz h0
            by_cases h20 : k - i = 19
            · have hbq : Op.bytesLess (cutL s i k) most19 = true ∨ (cutL s i k == most19) = true := by have h := HBG.out h20; unfold bigB at h; revert h; cases Op.bytesLess (cutL s i k) most19 <;> cases (cutL s i k == most19) <;> simp
              have HBG2 := Lib.hid hbq
              clear HBG hbq
              have hb20 : ((k : Int) - (i : Int) == 19) = true := by rw [beq_iff_eq]; omega
              have hsl := run_slice_string (P := Tryz.prog) (w := wr) 9 st .i64 .i64 (i : Nat) (k : Nat) Tryz.underlying9 (by omega) (by omega) (by omega)
              simp only [Int.toNat_natCast] at hsl
              have hex : st.extract i k = ⟨(cutL s i k).toArray⟩ := by rw [HST.out]; exact extract_cut s i k
              rw [hex] at hsl
              clear hex
              clear h20
              rcases HBG2.out with hbl | hbl
              · have HR : Hid (numT s i = .inr (⟨2, [], val (cutL s i k), i⟩, k)) := by unfold numT; rw [numL_end HEK.out H48.out HVM.out (by rw [← HN.out]; omega)]; exact rfl
                go_wp2_with fail
                go_loopw [6, 7] (fun s6 s7 wx => wx = wr ∧ ∃ (j x : Nat), s6 = .int .i64 x ∧ s7 = .int .i64 j ∧ i ≤ j ∧ j ≤ k ∧ x = val (cutL s i j)) (fun _ s7 _ => k - (intOf s7).toNat)
                case atStart => exact ⟨rfl, i, 0, rfl, rfl, Nat.le_refl _, by omega, by rw [cut_self]; rfl⟩
                case round =>
                  obtain ⟨rfl, j, x, rfl, rfl, hij, hjk, hx⟩ := hrel
                  have HJX := Lib.hid hx
                  clear hx
                  by_cases hjlt : j < k
                  · have hjs : j < s.length := by rw [← HN.out]; omega
                    obtain ⟨cj, hcj⟩ : ∃ c, c = s[j] := ⟨_, rfl⟩
                    have hjst : j < st.size := by omega
                    have hgj : st[j] = cj := by rw [hcj]; exact st_get HST.out hjst hjs
                    have hdj : digB cj = true := by
                      refine cut_all digB s i cj ?_
                      rw [HEK.out, cut_more s (i := i) (k := j) (e := k) hij hjk (by rw [← HN.out]; omega), cut_more s (i := j) (k := j + 1) (e := k) (by omega) (by omega) (by rw [← HN.out]; omega), cut_next s (Nat.le_refl j) hjs, cut_self, hcj]
                      simp
                    have hd2 : 48 ≤ cj.toNat ∧ cj.toNat ≤ 57 := by unfold digB at hdj; simpa using hdj
                    obtain ⟨hd3, hd4⟩ := hd2
                    have HNV : Hid (val (cutL s i (j + 1)) = 10 * x + (cj.toNat - 48)) := by rw [cut_next s hij hjs, val_snoc, ← hcj, ← HJX.out]; exact rfl
                    have hnx : 10 * x + (cj.toNat - 48) ≤ 9223372036854775807 := by
                      have h1 := val_mono (cutL s i (j + 1)) (cutL s (j + 1) k)
                      rw [← cut_more s (i := i) (k := j + 1) (e := k) (by omega) (by omega) (by rw [← HN.out]; omega), HNV.out] at h1
                      exact Nat.le_trans h1 HVM.out
                    obtain ⟨dj, hdj2⟩ : ∃ v, v = cj.toNat := ⟨_, rfl⟩
                    have hgj2 : st[j].toNat = dj := by rw [hgj, hdj2]
                    rw [← hdj2] at hd3 hd4 hnx HNV
                    clear hcj hjs hgj hdj hdj2
                    go_wp2_with fail
                    go_roundw
                    case rel => exact ⟨trivial, j + 1, 10 * x + (dj - 48), congrArg (Value.int .i64) (by omega), by go_num, by omega, by omega, HNV.out.symm⟩
                    case measure => simp [intOf]; omega
                  · obtain rfl : j = k := by omega
                    go_wp2_with (refine wpList_store_row rfl 72 _ _ rfl w.heap.size #[.int .u8 2, .string ⟨#[]⟩, .int .i64 (x : Nat), .int .i64 (i : Nat), .int .i64 (j : Nat), .int .i64 0, .int .i64 0] rfl rfl 72 _ HY.out (by kernel_rfl) (by kernel_rfl) (by kernel_rfl) ?_)
                    refine bodyPost_ret (results_cell_row rfl _ _ w.heap.size 72 #[.int .u8 2, .string ⟨#[]⟩, .int .i64 (x : Nat), .int .i64 (i : Nat), .int .i64 (j : Nat), .int .i64 0, .int .i64 0] (0, 0) _ rfl (setRow_heap _ w.heap.size _ _ 72 _ HY.out) Tryz.underlying72 rfl (by kernel_rfl)) rfl ⟨by rw [HR.out, HJX.out]; rfl, below_setRow HBW.out (Nat.le_refl _) _⟩
              · have HR : Hid (numT s i = .inr (⟨2, [], val (cutL s i k), i⟩, k)) := by unfold numT; rw [numL_end HEK.out H48.out HVM.out (by rw [← HN.out]; omega)]; exact rfl
                go_wp2_with fail
                go_loopw [6, 7] (fun s6 s7 wx => wx = wr ∧ ∃ (j x : Nat), s6 = .int .i64 x ∧ s7 = .int .i64 j ∧ i ≤ j ∧ j ≤ k ∧ x = val (cutL s i j)) (fun _ s7 _ => k - (intOf s7).toNat)
                case atStart => exact ⟨rfl, i, 0, rfl, rfl, Nat.le_refl _, by omega, by rw [cut_self]; rfl⟩
                case round =>
                  obtain ⟨rfl, j, x, rfl, rfl, hij, hjk, hx⟩ := hrel
                  have HJX := Lib.hid hx
                  clear hx
                  by_cases hjlt : j < k
                  · have hjs : j < s.length := by rw [← HN.out]; omega
                    obtain ⟨cj, hcj⟩ : ∃ c, c = s[j] := ⟨_, rfl⟩
                    have hjst : j < st.size := by omega
                    have hgj : st[j] = cj := by rw [hcj]; exact st_get HST.out hjst hjs
                    have hdj : digB cj = true := by
                      refine cut_all digB s i cj ?_
                      rw [HEK.out, cut_more s (i := i) (k := j) (e := k) hij hjk (by rw [← HN.out]; omega), cut_more s (i := j) (k := j + 1) (e := k) (by omega) (by omega) (by rw [← HN.out]; omega), cut_next s (Nat.le_refl j) hjs, cut_self, hcj]
                      simp
                    have hd2 : 48 ≤ cj.toNat ∧ cj.toNat ≤ 57 := by unfold digB at hdj; simpa using hdj
                    obtain ⟨hd3, hd4⟩ := hd2
                    have HNV : Hid (val (cutL s i (j + 1)) = 10 * x + (cj.toNat - 48)) := by rw [cut_next s hij hjs, val_snoc, ← hcj, ← HJX.out]; exact rfl
                    have hnx : 10 * x + (cj.toNat - 48) ≤ 9223372036854775807 := by
                      have h1 := val_mono (cutL s i (j + 1)) (cutL s (j + 1) k)
                      rw [← cut_more s (i := i) (k := j + 1) (e := k) (by omega) (by omega) (by rw [← HN.out]; omega), HNV.out] at h1
                      exact Nat.le_trans h1 HVM.out
                    obtain ⟨dj, hdj2⟩ : ∃ v, v = cj.toNat := ⟨_, rfl⟩
                    have hgj2 : st[j].toNat = dj := by rw [hgj, hdj2]
                    rw [← hdj2] at hd3 hd4 hnx HNV
                    clear hcj hjs hgj hdj hdj2
                    go_wp2_with fail
                    go_roundw
                    case rel => exact ⟨trivial, j + 1, 10 * x + (dj - 48), congrArg (Value.int .i64) (by omega), by go_num, by omega, by omega, HNV.out.symm⟩
                    case measure => simp [intOf]; omega
                  · obtain rfl : j = k := by omega
                    go_wp2_with (refine wpList_store_row rfl 72 _ _ rfl w.heap.size #[.int .u8 2, .string ⟨#[]⟩, .int .i64 (x : Nat), .int .i64 (i : Nat), .int .i64 (j : Nat), .int .i64 0, .int .i64 0] rfl rfl 72 _ HY.out (by kernel_rfl) (by kernel_rfl) (by kernel_rfl) ?_)
                    refine bodyPost_ret (results_cell_row rfl _ _ w.heap.size 72 #[.int .u8 2, .string ⟨#[]⟩, .int .i64 (x : Nat), .int .i64 (i : Nat), .int .i64 (j : Nat), .int .i64 0, .int .i64 0] (0, 0) _ rfl (setRow_heap _ w.heap.size _ _ 72 _ HY.out) Tryz.underlying72 rfl (by kernel_rfl)) rfl ⟨by rw [HR.out, HJX.out]; rfl, below_setRow HBW.out (Nat.le_refl _) _⟩
            · have hb20 : ((k : Int) - (i : Int) == 19) = false := by rw [beq_eq_false_iff_ne]; omega
              have HR : Hid (numT s i = .inr (⟨2, [], val (cutL s i k), i⟩, k)) := by unfold numT; rw [numL_end HEK.out H48.out HVM.out (by rw [← HN.out]; omega)]; exact rfl
              go_wp2_with fail
              go_loopw [6, 7] (fun s6 s7 wx => wx = wr ∧ ∃ (j x : Nat), s6 = .int .i64 x ∧ s7 = .int .i64 j ∧ i ≤ j ∧ j ≤ k ∧ x = val (cutL s i j)) (fun _ s7 _ => k - (intOf s7).toNat)
              case atStart => exact ⟨rfl, i, 0, rfl, rfl, Nat.le_refl _, by omega, by rw [cut_self]; rfl⟩
              case round =>
                obtain ⟨rfl, j, x, rfl, rfl, hij, hjk, hx⟩ := hrel
                have HJX := Lib.hid hx
                clear hx
                by_cases hjlt : j < k
                · have hjs : j < s.length := by rw [← HN.out]; omega
                  obtain ⟨cj, hcj⟩ : ∃ c, c = s[j] := ⟨_, rfl⟩
                  have hjst : j < st.size := by omega
                  have hgj : st[j] = cj := by rw [hcj]; exact st_get HST.out hjst hjs
                  have hdj : digB cj = true := by
                    refine cut_all digB s i cj ?_
                    rw [HEK.out, cut_more s (i := i) (k := j) (e := k) hij hjk (by rw [← HN.out]; omega), cut_more s (i := j) (k := j + 1) (e := k) (by omega) (by omega) (by rw [← HN.out]; omega), cut_next s (Nat.le_refl j) hjs, cut_self, hcj]
                    simp
                  have hd2 : 48 ≤ cj.toNat ∧ cj.toNat ≤ 57 := by unfold digB at hdj; simpa using hdj
                  obtain ⟨hd3, hd4⟩ := hd2
                  have HNV : Hid (val (cutL s i (j + 1)) = 10 * x + (cj.toNat - 48)) := by rw [cut_next s hij hjs, val_snoc, ← hcj, ← HJX.out]; exact rfl
                  have hnx : 10 * x + (cj.toNat - 48) ≤ 9223372036854775807 := by
                    have h1 := val_mono (cutL s i (j + 1)) (cutL s (j + 1) k)
                    rw [← cut_more s (i := i) (k := j + 1) (e := k) (by omega) (by omega) (by rw [← HN.out]; omega), HNV.out] at h1
                    exact Nat.le_trans h1 HVM.out
                  obtain ⟨dj, hdj2⟩ : ∃ v, v = cj.toNat := ⟨_, rfl⟩
                  have hgj2 : st[j].toNat = dj := by rw [hgj, hdj2]
                  rw [← hdj2] at hd3 hd4 hnx HNV
                  clear hcj hjs hgj hdj hdj2
                  go_wp2_with fail
                  go_roundw
                  case rel => exact ⟨trivial, j + 1, 10 * x + (dj - 48), congrArg (Value.int .i64) (by omega), by go_num, by omega, by omega, HNV.out.symm⟩
                  case measure => simp [intOf]; omega
                · obtain rfl : j = k := by omega
                  go_wp2_with (refine wpList_store_row rfl 72 _ _ rfl w.heap.size #[.int .u8 2, .string ⟨#[]⟩, .int .i64 (x : Nat), .int .i64 (i : Nat), .int .i64 (j : Nat), .int .i64 0, .int .i64 0] rfl rfl 72 _ HY.out (by kernel_rfl) (by kernel_rfl) (by kernel_rfl) ?_)
                  refine bodyPost_ret (results_cell_row rfl _ _ w.heap.size 72 #[.int .u8 2, .string ⟨#[]⟩, .int .i64 (x : Nat), .int .i64 (i : Nat), .int .i64 (j : Nat), .int .i64 0, .int .i64 0] (0, 0) _ rfl (setRow_heap _ w.heap.size _ _ 72 _ HY.out) Tryz.underlying72 rfl (by kernel_rfl)) rfl ⟨by rw [HR.out, HJX.out]; rfl, below_setRow HBW.out (Nat.le_refl _) _⟩
end Go.Proofs.YtbcadlocldplfaaGreat
namespace Go.Proofs.YtbcadlocldplfaaGreat
set_option maxRecDepth 100000
open Go.RowKit
set_option maxHeartbeats 2000000 in
theorem word_any (s : List UInt8) (i : Nat) (hs : s.length ≤ 100000) (hi : i ≤ s.length) (w : World) :
    Calls Tryz.prog 65 #[.string ⟨s.toArray⟩, .int .i64 (i : Nat)] w (ToldPost w (wordL s i)) := by
  obtain ⟨st, hst⟩ : ∃ st : ByteArray, st = ⟨s.toArray⟩ := ⟨_, rfl⟩
  have hsz : st.size = s.length := by rw [hst]; rfl
  obtain ⟨n, hn⟩ : ∃ n, n = s.length := ⟨_, rfl⟩
  obtain ⟨E, hE⟩ : ∃ E, E = scan innB s i := ⟨_, rfl⟩
  have hEn : E ≤ n := by rw [hE, hn]; exact scan_le _ _ hi
  have hiE : i ≤ E := by rw [hE]; exact scan_ge _ _ _
  rw [← hst]
  rw [← hn] at hsz hs hi
  have HST := Lib.hid hst
  have HN := Lib.hid hn
  have HE := Lib.hid hE
  clear hst hn hE
  go_enter Tryz.func65, Tryz.ntmps65
  go_wp2_with fail
  go_loopw [5] (fun s5 wr => (∃ k : Nat, s5 = .int .i64 k ∧ i ≤ k ∧ k ≤ E ∧ scan innB s k = E) ∧ wr = w.alloc (.cells #[.int .u8 0, .string ⟨#[]⟩, .int .i64 0, .int .i64 0, .int .i64 0, .int .i64 0, .int .i64 0] 72)) (fun s5 _ => n - (intOf s5).toNat)
  case atStart => exact ⟨⟨i, rfl, Nat.le_refl _, hiE, HE.out.symm⟩, rfl⟩
  case round =>
    obtain ⟨⟨k, rfl, hik, hkE, hsc⟩, hw⟩ := hrel
    have HX := Lib.hid (And.intro hsc hw)
    clear hsc hw
    by_cases hlt : k < n
    · have hks : k < s.length := by rw [← HN.out]; exact hlt
      obtain ⟨ch, hch⟩ : ∃ c, c = s[k] := ⟨_, rfl⟩
      have hkst : k < st.size := by omega
      have hg : st[k] = ch := by rw [hch]; exact st_get HST.out hkst hks
      have HSP : Hid (innB ch = false → k = E) := fun hd => by rw [← HX.out.1]; exact (scan_stop _ _ hks (by rw [← hch]; exact hd)).symm
      have HST2 : Hid (innB ch = true → scan innB s (k + 1) = E) := fun hd => by rw [← HX.out.1]; exact (scan_step _ _ hks (by rw [← hch]; exact hd)).symm
      clear hch hks
      have HIN : Hid (innB ch = (lowB ch || digB ch || decide (ch.toNat = 95))) := rfl
      have hcl : ch.toNat < 256 := UInt8.toNat_lt _
      have HLO := Lib.hid (low_any ch wr)
      have HDI := Lib.hid (dig_any ch wr)
      obtain ⟨cv, hcv⟩ : ∃ v, v = ch.toNat := ⟨_, rfl⟩
      have hg2 : st[k].toNat = cv := by rw [hg, hcv]
      rw [← hcv] at HLO HDI HIN hcl
      clear hg hcv
      by_cases hin : innB ch = true
      · have HS := Lib.hid (HST2.out hin)
        have hkE3 : k + 1 ≤ E := by rw [← HS.out]; exact scan_ge _ _ _
        rw [HIN.out] at hin
        cases hlo : lowB ch
        · cases hdi : digB ch
          · have h95 : cv = 95 := by rw [hlo, hdi] at hin; simpa using hin
            have hb95 : ((cv : Int) == 95) = true := by rw [h95]; rfl
            clear h95 hin
            go_wp2_with fail
            refine HLO.out.mono ?_
            rintro e w3 ⟨rfl, hw3⟩
            rw [hw3, hlo]
            clear hw3 w3
            go_wp2_with fail
            refine HDI.out.mono ?_
            rintro e w3 ⟨rfl, hw3⟩
            rw [hw3, hdi]
            clear hw3 w3
            go_wp2_with fail
            go_roundw
            case rel => exact ⟨⟨k + 1, by go_num, by omega, hkE3, HS.out⟩, HX.out.2⟩
            case measure => simp [intOf]; omega
          · clear hin
            go_wp2_with fail
            refine HLO.out.mono ?_
            rintro e w3 ⟨rfl, hw3⟩
            rw [hw3, hlo]
            clear hw3 w3
            go_wp2_with fail
            refine HDI.out.mono ?_
            rintro e w3 ⟨rfl, hw3⟩
            rw [hw3, hdi]
            clear hw3 w3
            go_wp2_with fail
            go_roundw
            case rel => exact ⟨⟨k + 1, by go_num, by omega, hkE3, HS.out⟩, HX.out.2⟩
            case measure => simp [intOf]; omega
        · clear hin
          go_wp2_with fail
          refine HLO.out.mono ?_
          rintro e w3 ⟨rfl, hw3⟩
          rw [hw3, hlo]
          clear hw3 w3
          go_wp2_with fail
          go_roundw
          case rel => exact ⟨⟨k + 1, by go_num, by omega, hkE3, HS.out⟩, HX.out.2⟩
          case measure => simp [intOf]; omega
      · have hkE2 : k = E := HSP.out (by simpa using hin)
        rw [HIN.out] at hin
        have hlo : lowB ch = false := by cases h : lowB ch <;> simp_all
        have hdi : digB ch = false := by cases h : digB ch <;> simp_all
        have h95 : ¬ cv = 95 := by rw [hlo, hdi] at hin; simpa using hin
        have hb95 : ((cv : Int) == 95) = false := by rw [beq_eq_false_iff_ne]; omega
        clear hin h95
        have hbw : Below w.heap.size w wr := by rw [HX.out.2]; exact (Below.refl _ _).alloc (Nat.le_refl _) _
        have HBW := Lib.hid hbw
        have hy : Blk wr w.heap.size 72 #[.int .u8 0, .string ⟨#[]⟩, .int .i64 0, .int .i64 0, .int .i64 0, .int .i64 0, .int .i64 0] := by rw [HX.out.2]; exact Blk.new w 72 _
        have HY := Lib.hid hy
        have hszr : w.heap.size < wr.heap.size := hy.lt
        clear hbw hy
        by_cases h24 : 24 < k - i
        · have HR : Hid (wordL s i = .inl (i, 2)) := by unfold wordL; rw [← HE.out, ← hkE2, if_pos h24]; exact rfl
          clear hkE2
          go_wp2_with fail
          refine HLO.out.mono ?_
          rintro e w3 ⟨rfl, hw3⟩
          rw [hw3, hlo]
          clear hw3 w3
          go_wp2_with fail
          refine HDI.out.mono ?_
          rintro e w3 ⟨rfl, hw3⟩
          rw [hw3, hdi]
          clear hw3 w3
          go_wp2_with fail
          refine (wrong_any i 2 wr).mono ?_
          rintro e w2 ⟨rfl, hb2⟩
          unfold told toldV
          have HB2 := Lib.hid (HBW.out.trans (hb2.mono HBW.out.size))
          have HY2 : Hid (Blk w2 w.heap.size 72 #[.int .u8 0, .string ⟨#[]⟩, .int .i64 0, .int .i64 0, .int .i64 0, .int .i64 0, .int .i64 0]) := (hb2.block _ hszr).trans HY.out
          clear hb2
          go_wp2_with (refine wpList_store_row rfl 72 _ _ rfl w.heap.size #[.int .u8 0, .string ⟨#[]⟩, .int .i64 0, .int .i64 0, .int .i64 0, .int .i64 (i : Nat), .int .i64 2] rfl rfl 72 _ HY2.out (by kernel_rfl) (by kernel_rfl) (by kernel_rfl) ?_)
          refine bodyPost_ret (results_cell_row rfl _ _ w.heap.size 72 #[.int .u8 0, .string ⟨#[]⟩, .int .i64 0, .int .i64 0, .int .i64 0, .int .i64 (i : Nat), .int .i64 2] (0, 0) _ rfl (setRow_heap _ w.heap.size _ _ 72 _ HY2.out) Tryz.underlying72 rfl (by kernel_rfl)) rfl ⟨by rw [HR.out]; rfl, below_setRow HB2.out (Nat.le_refl _) _⟩
        · have HR : Hid (wordL s i = .inr (⟨1, cutL s i k, 0, i⟩, k)) := by unfold wordL; rw [← HE.out, ← hkE2, if_neg h24]; exact rfl
          have hkn : k ≤ n := by omega
          have hsl := run_slice_string (P := Tryz.prog) (w := wr) 9 st .i64 .i64 (i : Nat) (k : Nat) Tryz.underlying9 (by omega) (by omega) (by omega)
          simp only [Int.toNat_natCast] at hsl
          have hex : st.extract i k = ⟨(cutL s i k).toArray⟩ := by rw [HST.out]; exact extract_cut s i k
          rw [hex] at hsl
          clear hkE2 hex
          go_wp2_with fail
          refine HLO.out.mono ?_
          rintro e w3 ⟨rfl, hw3⟩
          rw [hw3, hlo]
          clear hw3 w3
          go_wp2_with fail
          refine HDI.out.mono ?_
          rintro e w3 ⟨rfl, hw3⟩
          rw [hw3, hdi]
          clear hw3 w3
          go_wp2_with (refine wpList_store_row rfl 72 _ _ rfl w.heap.size #[.int .u8 1, .string ⟨(cutL s i k).toArray⟩, .int .i64 0, .int .i64 (i : Nat), .int .i64 (k : Nat), .int .i64 0, .int .i64 0] rfl rfl 72 _ HY.out (by kernel_rfl) (by kernel_rfl) (by kernel_rfl) ?_)
          refine bodyPost_ret (results_cell_row rfl _ _ w.heap.size 72 #[.int .u8 1, .string ⟨(cutL s i k).toArray⟩, .int .i64 0, .int .i64 (i : Nat), .int .i64 (k : Nat), .int .i64 0, .int .i64 0] (0, 0) _ rfl (setRow_heap _ w.heap.size _ _ 72 _ HY.out) Tryz.underlying72 rfl (by kernel_rfl)) rfl ⟨by rw [HR.out]; rfl, below_setRow HBW.out (Nat.le_refl _) _⟩
    · have hkE2 : k = E := by omega
      have hbw : Below w.heap.size w wr := by rw [HX.out.2]; exact (Below.refl _ _).alloc (Nat.le_refl _) _
      have HBW := Lib.hid hbw
      have hy : Blk wr w.heap.size 72 #[.int .u8 0, .string ⟨#[]⟩, .int .i64 0, .int .i64 0, .int .i64 0, .int .i64 0, .int .i64 0] := by rw [HX.out.2]; exact Blk.new w 72 _
      have HY := Lib.hid hy
      have hszr : w.heap.size < wr.heap.size := hy.lt
      clear hbw hy
      by_cases h24 : 24 < k - i
      · have HR : Hid (wordL s i = .inl (i, 2)) := by unfold wordL; rw [← HE.out, ← hkE2, if_pos h24]; exact rfl
        clear hkE2
        go_wp2_with fail
        refine (wrong_any i 2 wr).mono ?_
        rintro e w2 ⟨rfl, hb2⟩
        unfold told toldV
        have HB2 := Lib.hid (HBW.out.trans (hb2.mono HBW.out.size))
        have HY2 : Hid (Blk w2 w.heap.size 72 #[.int .u8 0, .string ⟨#[]⟩, .int .i64 0, .int .i64 0, .int .i64 0, .int .i64 0, .int .i64 0]) := (hb2.block _ hszr).trans HY.out
        clear hb2
        go_wp2_with (refine wpList_store_row rfl 72 _ _ rfl w.heap.size #[.int .u8 0, .string ⟨#[]⟩, .int .i64 0, .int .i64 0, .int .i64 0, .int .i64 (i : Nat), .int .i64 2] rfl rfl 72 _ HY2.out (by kernel_rfl) (by kernel_rfl) (by kernel_rfl) ?_)
        refine bodyPost_ret (results_cell_row rfl _ _ w.heap.size 72 #[.int .u8 0, .string ⟨#[]⟩, .int .i64 0, .int .i64 0, .int .i64 0, .int .i64 (i : Nat), .int .i64 2] (0, 0) _ rfl (setRow_heap _ w.heap.size _ _ 72 _ HY2.out) Tryz.underlying72 rfl (by kernel_rfl)) rfl ⟨by rw [HR.out]; rfl, below_setRow HB2.out (Nat.le_refl _) _⟩
      · have HR : Hid (wordL s i = .inr (⟨1, cutL s i k, 0, i⟩, k)) := by unfold wordL; rw [← HE.out, ← hkE2, if_neg h24]; exact rfl
        have hkn : k ≤ n := by omega
        have hsl := run_slice_string (P := Tryz.prog) (w := wr) 9 st .i64 .i64 (i : Nat) (k : Nat) Tryz.underlying9 (by omega) (by omega) (by omega)
        simp only [Int.toNat_natCast] at hsl
        have hex : st.extract i k = ⟨(cutL s i k).toArray⟩ := by rw [HST.out]; exact extract_cut s i k
        rw [hex] at hsl
        clear hkE2 hex
        go_wp2_with (refine wpList_store_row rfl 72 _ _ rfl w.heap.size #[.int .u8 1, .string ⟨(cutL s i k).toArray⟩, .int .i64 0, .int .i64 (i : Nat), .int .i64 (k : Nat), .int .i64 0, .int .i64 0] rfl rfl 72 _ HY.out (by kernel_rfl) (by kernel_rfl) (by kernel_rfl) ?_)
        refine bodyPost_ret (results_cell_row rfl _ _ w.heap.size 72 #[.int .u8 1, .string ⟨(cutL s i k).toArray⟩, .int .i64 0, .int .i64 (i : Nat), .int .i64 (k : Nat), .int .i64 0, .int .i64 0] (0, 0) _ rfl (setRow_heap _ w.heap.size _ _ 72 _ HY.out) Tryz.underlying72 rfl (by kernel_rfl)) rfl ⟨by rw [HR.out]; rfl, below_setRow HBW.out (Nat.le_refl _) _⟩
end Go.Proofs.YtbcadlocldplfaaGreat
