/- The document's show: contract of bare, from those of at and block. And what follows from it. -/
import Derived.Test.YtbcadlocldplfaaDoorQta
import Derived.Test.YtbcadlocldplfaaDoorQto
import Derived.Test.YtbcadlocldplfaaDoorQt0
set_option maxHeartbeats 16000000
set_option linter.unusedSimpArgs false
set_option linter.unusedVariables false
namespace Go.Proofs.YtbcadlocldplfaaDoor
open Go.Proofs.Tryd
set_option maxRecDepth 100000
open Go.RowKit T8
theorem rb45 (N : Nat) (hE : AtR N) (hB : BlockR N) (k : Tr) (hk : Rt 0 k ∧ k.flat.length <= N) (l : List Tw) (A : Option Addr) (c i : Nat) (r : List Tw) (w : World) (h : Twg w l A i r ⟨45, 1, 0, bs []⟩ [k]) :
 Calls prog 100 #[.slice A l.length c, .int .i64 (i : Nat)] w (RP w (bareS ⟨45, 1, 0, bs []⟩ (shs [k]))) := by
 have HT := zh h
 obtain ⟨ha1, hi, ha2, b, off, rfl, hbl, hrg⟩ := h.at_
 have HRG : Hid (w.rangeAt b (off + i * 4) [.int .u8 45, .int .i64 1, .int .i64 0, .string (bs [])]) := zh (hrg w (Below.refl _ _))
 have HKD := zh (fun W hW => h.kids c 1 rfl W hW)
 have HM := zh mark45
 have HL := zh (fun cK K W hW hK => h.lis hE (mem1 hk) ⟨#[40]⟩ ⟨#[41]⟩ c cK 1 rfl K W hW hK)
 have HLL : Hid ((sgB ⟨#[40]⟩ :: (commas 1 (shs [k]) ++ [sgB ⟨#[41]⟩])).length <= 900000) := zh (by rw [lnc, lna, List.length_singleton]; have := h.lisn (N := N) (mem1 hk); omega)
 obtain ⟨q, hq⟩ := ex l.length
 have HQ := zh hq
 have hq9 : q <= 100000 := by have := h.len; omega
 rw [<- hq] at hi |-
 have a0 : (0 : Int) <= (i : Int) := by omega
 have a1 : (i : Int) < (q : Int) := by omega
 have HB0 := zh (Blk.new w 42 #[.int .u8 0, .int .i64 0, .int .i64 0, .string ⟨#[]⟩])
 have HWB := zh ((Below.refl w.heap.size w).alloc (nlr _) (.cells #[.int .u8 45, .int .i64 1, .int .i64 0, .string (bs [])] 42))
 have HWA := zh (Blk.new w 42 #[.int .u8 45, .int .i64 1, .int .i64 0, .string (bs [])])
 rw [<- HQ.out] at HKD HL
 clear h hrg hE hB hq hbl ha1 ha2
 go_in
 go_upto_region 2 with (first | (refine wpList_load_mid rfl 42 (.tmp 17) rfl b (off + i * 4) rfl [.int .u8 45, .int .i64 1, .int .i64 0, .string (bs [])] (.struct _) HRG.out underlying42 rfl (by kernel_rfl) ?_) | (refine wpList_store_row rfl 42 (.tmp 5) (.tmp 18) rfl w.heap.size #[.int .u8 45, .int .i64 1, .int .i64 0, .string (bs [])] rfl rfl 42 #[.int .u8 0, .int .i64 0, .int .i64 0, .string ⟨#[]⟩] HB0.out (by kernel_rfl) rfl (by kernel_rfl) ?_; rw [World.setRow_alloc_new]) | fail)
 clear HB0
 obtain ⟨g, hg⟩ := ex w.heap.size
 rw [<- hg] at HWA |-
 generalize w.alloc _ = wa at *
 have HG := zh hg
 clear hg
 go_wp2_with fail
 refine (HKD.out wa HWB.out).mono ?_
 rintro e w2 ⟨K, cK, rfl, hcK, hK, hKb, hb2⟩
 obtain ⟨B, hBw⟩ := ex w2.heap.size
 have HS : Hid (Bst w w2 B g ⟨45, 1, 0, bs []⟩ K [k] i) := zh (Bst.new (w2' := w2) (HWB.out.trans (hb2.mono HWB.out.size)) ((hb2.block _ HWA.out.lt).trans HWA.out) hK (by rw [HG.out]; exact nlr _) hBw)
 have hg2 : g < w2.heap.size := HS.out.blk.lt
 have c0 : w2.cell? ⟨g, 0, none⟩ = some (.int .u8 45) := HS.out.blk.cell 0
 have c2 : w2.cell? ⟨g, 2, none⟩ = some (.int .i64 (0)) := HS.out.blk.cell 2
 have c3 : w2.cell? ⟨g, 3, none⟩ = some (.string (bs [])) := HS.out.blk.cell 3
 have HKB := zh (ai hKb hcK)
 clear hK hKb hb2 hcK hBw
 obtain ⟨kb, ko, rfl⟩ := HS.out.place (by simp)
 go_wp2_with fail
 refine (rwidth45 _).mono ?_
 rintro e w3 ⟨rfl, hw⟩
 rw [hw]
 clear hw w3
 go_wp2_with fail
 refine (HM.out w2).mono ?_
 rintro e w4 ⟨rfl, hb4⟩
 have HS4 := zh (HS.out.below hb4)
 clear hb4
 have HR4 : Hid ((w4.alloc (.cells #[.int .u8 1, .string (⟨#[108, 101, 110]⟩), .int .i64 (0), .int .i64 0] 35)).ownsRow B 35 4 (.slice (some ⟨w4.heap.size, 0, none⟩) 1 1) 1 (rowOf zcell [⟨1, ⟨#[108, 101, 110]⟩, 0, 0⟩])) := zh (tok_row HS4.out.big 1 (⟨#[108, 101, 110]⟩) (0))
 have HA4 := zh (HS4.out.alloc (.cells #[.int .u8 1, .string (⟨#[108, 101, 110]⟩), .int .i64 (0), .int .i64 0] 35))
 go_upto_region 27 with fail
 generalize w4.alloc _ = wa4 at *
 go_wp2_with fail
 refine (HL.out cK (some ⟨kb, ko, none⟩) wa4 HA4.out.bel HA4.out.kid).mono ?_
 rintro e w5 ⟨A5, c5, rfl, ho5, hb5⟩
 obtain ⟨m5, hm5⟩ : ∃ z, z = (sgB ⟨#[40]⟩ :: (commas 1 (shs [k]) ++ [sgB ⟨#[41]⟩])).length := ⟨_, rfl⟩
 have hm95 : m5 <= 900000 := by rw [hm5]; exact HLL.out
 rw [<- hm5] at ho5 |-
 have HM5 := zh hm5
 have HS5 := zh (HA4.out.below hb5)
 have HR5 := zh (own_below HR4.out hb5)
 have HX5 := zh (rdz_ow ho5 HM5.out)
 clear ho5 hb5 hm5
 go_wp2_with (at_builtin; refine wpList_app_z rfl (.tmp 129) (.tmp 132) rfl B (1) 1 m5 c5 (some ⟨w4.heap.size, 0, none⟩) A5 ([⟨1, ⟨#[108, 101, 110]⟩, 0, 0⟩]) (sgB ⟨#[40]⟩ :: (commas 1 (shs [k]) ++ [sgB ⟨#[41]⟩])) rfl HR5.out rfl HM5.out HX5.out (by omega) HS5.out.big ?_; intro A6 c6 w6 ho6 hg6; have HR6 := zh ho6; have HS6 := zh (HS5.out.grown HR5.out hg6); clear ho6 hg6)
 go_ret
 exact rp_of (own_mono HR6.out HS6.out.lowB) (by rw [lna, <- HM5.out]; rfl) HS6.out.bel (rfl)
theorem rb46 (N : Nat) (hE : AtR N) (hB : BlockR N) (k : Tr) (hk : Rt 0 k ∧ k.flat.length <= N) (l : List Tw) (A : Option Addr) (c i : Nat) (r : List Tw) (w : World) (h : Twg w l A i r ⟨46, 1, 0, bs []⟩ [k]) :
 Calls prog 100 #[.slice A l.length c, .int .i64 (i : Nat)] w (RP w (bareS ⟨46, 1, 0, bs []⟩ (shs [k]))) := by
 have HT := zh h
 obtain ⟨ha1, hi, ha2, b, off, rfl, hbl, hrg⟩ := h.at_
 have HRG : Hid (w.rangeAt b (off + i * 4) [.int .u8 46, .int .i64 1, .int .i64 0, .string (bs [])]) := zh (hrg w (Below.refl _ _))
 have HKD := zh (fun W hW => h.kids c 1 rfl W hW)
 have HM := zh mark46
 have HL := zh (fun cK K W hW hK => h.lis hE (mem1 hk) ⟨#[40]⟩ ⟨#[41]⟩ c cK 1 rfl K W hW hK)
 have HLL : Hid ((sgB ⟨#[40]⟩ :: (commas 1 (shs [k]) ++ [sgB ⟨#[41]⟩])).length <= 900000) := zh (by rw [lnc, lna, List.length_singleton]; have := h.lisn (N := N) (mem1 hk); omega)
 obtain ⟨q, hq⟩ := ex l.length
 have HQ := zh hq
 have hq9 : q <= 100000 := by have := h.len; omega
 rw [<- hq] at hi |-
 have a0 : (0 : Int) <= (i : Int) := by omega
 have a1 : (i : Int) < (q : Int) := by omega
 have HB0 := zh (Blk.new w 42 #[.int .u8 0, .int .i64 0, .int .i64 0, .string ⟨#[]⟩])
 have HWB := zh ((Below.refl w.heap.size w).alloc (nlr _) (.cells #[.int .u8 46, .int .i64 1, .int .i64 0, .string (bs [])] 42))
 have HWA := zh (Blk.new w 42 #[.int .u8 46, .int .i64 1, .int .i64 0, .string (bs [])])
 rw [<- HQ.out] at HKD HL
 clear h hrg hE hB hq hbl ha1 ha2
 go_in
 go_upto_region 2 with (first | (refine wpList_load_mid rfl 42 (.tmp 17) rfl b (off + i * 4) rfl [.int .u8 46, .int .i64 1, .int .i64 0, .string (bs [])] (.struct _) HRG.out underlying42 rfl (by kernel_rfl) ?_) | (refine wpList_store_row rfl 42 (.tmp 5) (.tmp 18) rfl w.heap.size #[.int .u8 46, .int .i64 1, .int .i64 0, .string (bs [])] rfl rfl 42 #[.int .u8 0, .int .i64 0, .int .i64 0, .string ⟨#[]⟩] HB0.out (by kernel_rfl) rfl (by kernel_rfl) ?_; rw [World.setRow_alloc_new]) | fail)
 clear HB0
 obtain ⟨g, hg⟩ := ex w.heap.size
 rw [<- hg] at HWA |-
 generalize w.alloc _ = wa at *
 have HG := zh hg
 clear hg
 go_wp2_with fail
 refine (HKD.out wa HWB.out).mono ?_
 rintro e w2 ⟨K, cK, rfl, hcK, hK, hKb, hb2⟩
 obtain ⟨B, hBw⟩ := ex w2.heap.size
 have HS : Hid (Bst w w2 B g ⟨46, 1, 0, bs []⟩ K [k] i) := zh (Bst.new (w2' := w2) (HWB.out.trans (hb2.mono HWB.out.size)) ((hb2.block _ HWA.out.lt).trans HWA.out) hK (by rw [HG.out]; exact nlr _) hBw)
 have hg2 : g < w2.heap.size := HS.out.blk.lt
 have c0 : w2.cell? ⟨g, 0, none⟩ = some (.int .u8 46) := HS.out.blk.cell 0
 have c2 : w2.cell? ⟨g, 2, none⟩ = some (.int .i64 (0)) := HS.out.blk.cell 2
 have c3 : w2.cell? ⟨g, 3, none⟩ = some (.string (bs [])) := HS.out.blk.cell 3
 have HKB := zh (ai hKb hcK)
 clear hK hKb hb2 hcK hBw
 obtain ⟨kb, ko, rfl⟩ := HS.out.place (by simp)
 go_wp2_with fail
 refine (rwidth46 _).mono ?_
 rintro e w3 ⟨rfl, hw⟩
 rw [hw]
 clear hw w3
 go_wp2_with fail
 refine (HM.out w2).mono ?_
 rintro e w4 ⟨rfl, hb4⟩
 have HS4 := zh (HS.out.below hb4)
 clear hb4
 have HR4 : Hid ((w4.alloc (.cells #[.int .u8 1, .string (⟨#[114, 101]⟩), .int .i64 (0), .int .i64 0] 35)).ownsRow B 35 4 (.slice (some ⟨w4.heap.size, 0, none⟩) 1 1) 1 (rowOf zcell [⟨1, ⟨#[114, 101]⟩, 0, 0⟩])) := zh (tok_row HS4.out.big 1 (⟨#[114, 101]⟩) (0))
 have HA4 := zh (HS4.out.alloc (.cells #[.int .u8 1, .string (⟨#[114, 101]⟩), .int .i64 (0), .int .i64 0] 35))
 go_upto_region 27 with fail
 generalize w4.alloc _ = wa4 at *
 go_wp2_with fail
 refine (HL.out cK (some ⟨kb, ko, none⟩) wa4 HA4.out.bel HA4.out.kid).mono ?_
 rintro e w5 ⟨A5, c5, rfl, ho5, hb5⟩
 obtain ⟨m5, hm5⟩ : ∃ z, z = (sgB ⟨#[40]⟩ :: (commas 1 (shs [k]) ++ [sgB ⟨#[41]⟩])).length := ⟨_, rfl⟩
 have hm95 : m5 <= 900000 := by rw [hm5]; exact HLL.out
 rw [<- hm5] at ho5 |-
 have HM5 := zh hm5
 have HS5 := zh (HA4.out.below hb5)
 have HR5 := zh (own_below HR4.out hb5)
 have HX5 := zh (rdz_ow ho5 HM5.out)
 clear ho5 hb5 hm5
 go_wp2_with (at_builtin; refine wpList_app_z rfl (.tmp 129) (.tmp 132) rfl B (1) 1 m5 c5 (some ⟨w4.heap.size, 0, none⟩) A5 ([⟨1, ⟨#[114, 101]⟩, 0, 0⟩]) (sgB ⟨#[40]⟩ :: (commas 1 (shs [k]) ++ [sgB ⟨#[41]⟩])) rfl HR5.out rfl HM5.out HX5.out (by omega) HS5.out.big ?_; intro A6 c6 w6 ho6 hg6; have HR6 := zh ho6; have HS6 := zh (HS5.out.grown HR5.out hg6); clear ho6 hg6)
 go_ret
 exact rp_of (own_mono HR6.out HS6.out.lowB) (by rw [lna, <- HM5.out]; rfl) HS6.out.bel (rfl)
theorem rb47 (N : Nat) (hE : AtR N) (hB : BlockR N) (k : Tr) (hk : Rt 0 k ∧ k.flat.length <= N) (l : List Tw) (A : Option Addr) (c i : Nat) (r : List Tw) (w : World) (h : Twg w l A i r ⟨47, 1, 0, bs []⟩ [k]) :
 Calls prog 100 #[.slice A l.length c, .int .i64 (i : Nat)] w (RP w (bareS ⟨47, 1, 0, bs []⟩ (shs [k]))) := by
 have HT := zh h
 obtain ⟨ha1, hi, ha2, b, off, rfl, hbl, hrg⟩ := h.at_
 have HRG : Hid (w.rangeAt b (off + i * 4) [.int .u8 47, .int .i64 1, .int .i64 0, .string (bs [])]) := zh (hrg w (Below.refl _ _))
 have HKD := zh (fun W hW => h.kids c 1 rfl W hW)
 have HM := zh mark47
 have HL := zh (fun cK K W hW hK => h.lis hE (mem1 hk) ⟨#[40]⟩ ⟨#[41]⟩ c cK 1 rfl K W hW hK)
 have HLL : Hid ((sgB ⟨#[40]⟩ :: (commas 1 (shs [k]) ++ [sgB ⟨#[41]⟩])).length <= 900000) := zh (by rw [lnc, lna, List.length_singleton]; have := h.lisn (N := N) (mem1 hk); omega)
 obtain ⟨q, hq⟩ := ex l.length
 have HQ := zh hq
 have hq9 : q <= 100000 := by have := h.len; omega
 rw [<- hq] at hi |-
 have a0 : (0 : Int) <= (i : Int) := by omega
 have a1 : (i : Int) < (q : Int) := by omega
 have HB0 := zh (Blk.new w 42 #[.int .u8 0, .int .i64 0, .int .i64 0, .string ⟨#[]⟩])
 have HWB := zh ((Below.refl w.heap.size w).alloc (nlr _) (.cells #[.int .u8 47, .int .i64 1, .int .i64 0, .string (bs [])] 42))
 have HWA := zh (Blk.new w 42 #[.int .u8 47, .int .i64 1, .int .i64 0, .string (bs [])])
 rw [<- HQ.out] at HKD HL
 clear h hrg hE hB hq hbl ha1 ha2
 go_in
 go_upto_region 2 with (first | (refine wpList_load_mid rfl 42 (.tmp 17) rfl b (off + i * 4) rfl [.int .u8 47, .int .i64 1, .int .i64 0, .string (bs [])] (.struct _) HRG.out underlying42 rfl (by kernel_rfl) ?_) | (refine wpList_store_row rfl 42 (.tmp 5) (.tmp 18) rfl w.heap.size #[.int .u8 47, .int .i64 1, .int .i64 0, .string (bs [])] rfl rfl 42 #[.int .u8 0, .int .i64 0, .int .i64 0, .string ⟨#[]⟩] HB0.out (by kernel_rfl) rfl (by kernel_rfl) ?_; rw [World.setRow_alloc_new]) | fail)
 clear HB0
 obtain ⟨g, hg⟩ := ex w.heap.size
 rw [<- hg] at HWA |-
 generalize w.alloc _ = wa at *
 have HG := zh hg
 clear hg
 go_wp2_with fail
 refine (HKD.out wa HWB.out).mono ?_
 rintro e w2 ⟨K, cK, rfl, hcK, hK, hKb, hb2⟩
 obtain ⟨B, hBw⟩ := ex w2.heap.size
 have HS : Hid (Bst w w2 B g ⟨47, 1, 0, bs []⟩ K [k] i) := zh (Bst.new (w2' := w2) (HWB.out.trans (hb2.mono HWB.out.size)) ((hb2.block _ HWA.out.lt).trans HWA.out) hK (by rw [HG.out]; exact nlr _) hBw)
 have hg2 : g < w2.heap.size := HS.out.blk.lt
 have c0 : w2.cell? ⟨g, 0, none⟩ = some (.int .u8 47) := HS.out.blk.cell 0
 have c2 : w2.cell? ⟨g, 2, none⟩ = some (.int .i64 (0)) := HS.out.blk.cell 2
 have c3 : w2.cell? ⟨g, 3, none⟩ = some (.string (bs [])) := HS.out.blk.cell 3
 have HKB := zh (ai hKb hcK)
 clear hK hKb hb2 hcK hBw
 obtain ⟨kb, ko, rfl⟩ := HS.out.place (by simp)
 go_wp2_with fail
 refine (rwidth47 _).mono ?_
 rintro e w3 ⟨rfl, hw⟩
 rw [hw]
 clear hw w3
 go_wp2_with fail
 refine (HM.out w2).mono ?_
 rintro e w4 ⟨rfl, hb4⟩
 have HS4 := zh (HS.out.below hb4)
 clear hb4
 have HR4 : Hid ((w4.alloc (.cells #[.int .u8 1, .string (⟨#[105, 109]⟩), .int .i64 (0), .int .i64 0] 35)).ownsRow B 35 4 (.slice (some ⟨w4.heap.size, 0, none⟩) 1 1) 1 (rowOf zcell [⟨1, ⟨#[105, 109]⟩, 0, 0⟩])) := zh (tok_row HS4.out.big 1 (⟨#[105, 109]⟩) (0))
 have HA4 := zh (HS4.out.alloc (.cells #[.int .u8 1, .string (⟨#[105, 109]⟩), .int .i64 (0), .int .i64 0] 35))
 go_upto_region 27 with fail
 generalize w4.alloc _ = wa4 at *
 go_wp2_with fail
 refine (HL.out cK (some ⟨kb, ko, none⟩) wa4 HA4.out.bel HA4.out.kid).mono ?_
 rintro e w5 ⟨A5, c5, rfl, ho5, hb5⟩
 obtain ⟨m5, hm5⟩ : ∃ z, z = (sgB ⟨#[40]⟩ :: (commas 1 (shs [k]) ++ [sgB ⟨#[41]⟩])).length := ⟨_, rfl⟩
 have hm95 : m5 <= 900000 := by rw [hm5]; exact HLL.out
 rw [<- hm5] at ho5 |-
 have HM5 := zh hm5
 have HS5 := zh (HA4.out.below hb5)
 have HR5 := zh (own_below HR4.out hb5)
 have HX5 := zh (rdz_ow ho5 HM5.out)
 clear ho5 hb5 hm5
 go_wp2_with (at_builtin; refine wpList_app_z rfl (.tmp 129) (.tmp 132) rfl B (1) 1 m5 c5 (some ⟨w4.heap.size, 0, none⟩) A5 ([⟨1, ⟨#[105, 109]⟩, 0, 0⟩]) (sgB ⟨#[40]⟩ :: (commas 1 (shs [k]) ++ [sgB ⟨#[41]⟩])) rfl HR5.out rfl HM5.out HX5.out (by omega) HS5.out.big ?_; intro A6 c6 w6 ho6 hg6; have HR6 := zh ho6; have HS6 := zh (HS5.out.grown HR5.out hg6); clear ho6 hg6)
 go_ret
 exact rp_of (own_mono HR6.out HS6.out.lowB) (by rw [lna, <- HM5.out]; rfl) HS6.out.bel (rfl)
theorem rb48 (N : Nat) (hE : AtR N) (hB : BlockR N) (k : Tr) (hk : Rt 0 k ∧ k.flat.length <= N) (l : List Tw) (A : Option Addr) (c i : Nat) (r : List Tw) (w : World) (h : Twg w l A i r ⟨48, 1, 0, bs []⟩ [k]) :
 Calls prog 100 #[.slice A l.length c, .int .i64 (i : Nat)] w (RP w (bareS ⟨48, 1, 0, bs []⟩ (shs [k]))) := by
 have HT := zh h
 obtain ⟨ha1, hi, ha2, b, off, rfl, hbl, hrg⟩ := h.at_
 have HRG : Hid (w.rangeAt b (off + i * 4) [.int .u8 48, .int .i64 1, .int .i64 0, .string (bs [])]) := zh (hrg w (Below.refl _ _))
 have HKD := zh (fun W hW => h.kids c 1 rfl W hW)
 have HM := zh mark48
 have HL := zh (fun cK K W hW hK => h.lis hE (mem1 hk) ⟨#[40]⟩ ⟨#[41]⟩ c cK 1 rfl K W hW hK)
 have HLL : Hid ((sgB ⟨#[40]⟩ :: (commas 1 (shs [k]) ++ [sgB ⟨#[41]⟩])).length <= 900000) := zh (by rw [lnc, lna, List.length_singleton]; have := h.lisn (N := N) (mem1 hk); omega)
 obtain ⟨q, hq⟩ := ex l.length
 have HQ := zh hq
 have hq9 : q <= 100000 := by have := h.len; omega
 rw [<- hq] at hi |-
 have a0 : (0 : Int) <= (i : Int) := by omega
 have a1 : (i : Int) < (q : Int) := by omega
 have HB0 := zh (Blk.new w 42 #[.int .u8 0, .int .i64 0, .int .i64 0, .string ⟨#[]⟩])
 have HWB := zh ((Below.refl w.heap.size w).alloc (nlr _) (.cells #[.int .u8 48, .int .i64 1, .int .i64 0, .string (bs [])] 42))
 have HWA := zh (Blk.new w 42 #[.int .u8 48, .int .i64 1, .int .i64 0, .string (bs [])])
 rw [<- HQ.out] at HKD HL
 clear h hrg hE hB hq hbl ha1 ha2
 go_in
 go_upto_region 2 with (first | (refine wpList_load_mid rfl 42 (.tmp 17) rfl b (off + i * 4) rfl [.int .u8 48, .int .i64 1, .int .i64 0, .string (bs [])] (.struct _) HRG.out underlying42 rfl (by kernel_rfl) ?_) | (refine wpList_store_row rfl 42 (.tmp 5) (.tmp 18) rfl w.heap.size #[.int .u8 48, .int .i64 1, .int .i64 0, .string (bs [])] rfl rfl 42 #[.int .u8 0, .int .i64 0, .int .i64 0, .string ⟨#[]⟩] HB0.out (by kernel_rfl) rfl (by kernel_rfl) ?_; rw [World.setRow_alloc_new]) | fail)
 clear HB0
 obtain ⟨g, hg⟩ := ex w.heap.size
 rw [<- hg] at HWA |-
 generalize w.alloc _ = wa at *
 have HG := zh hg
 clear hg
 go_wp2_with fail
 refine (HKD.out wa HWB.out).mono ?_
 rintro e w2 ⟨K, cK, rfl, hcK, hK, hKb, hb2⟩
 obtain ⟨B, hBw⟩ := ex w2.heap.size
 have HS : Hid (Bst w w2 B g ⟨48, 1, 0, bs []⟩ K [k] i) := zh (Bst.new (w2' := w2) (HWB.out.trans (hb2.mono HWB.out.size)) ((hb2.block _ HWA.out.lt).trans HWA.out) hK (by rw [HG.out]; exact nlr _) hBw)
 have hg2 : g < w2.heap.size := HS.out.blk.lt
 have c0 : w2.cell? ⟨g, 0, none⟩ = some (.int .u8 48) := HS.out.blk.cell 0
 have c2 : w2.cell? ⟨g, 2, none⟩ = some (.int .i64 (0)) := HS.out.blk.cell 2
 have c3 : w2.cell? ⟨g, 3, none⟩ = some (.string (bs [])) := HS.out.blk.cell 3
 have HKB := zh (ai hKb hcK)
 clear hK hKb hb2 hcK hBw
 obtain ⟨kb, ko, rfl⟩ := HS.out.place (by simp)
 go_wp2_with fail
 refine (rwidth48 _).mono ?_
 rintro e w3 ⟨rfl, hw⟩
 rw [hw]
 clear hw w3
 go_wp2_with fail
 refine (HM.out w2).mono ?_
 rintro e w4 ⟨rfl, hb4⟩
 have HS4 := zh (HS.out.below hb4)
 clear hb4
 have HR4 : Hid ((w4.alloc (.cells #[.int .u8 1, .string (⟨#[99, 111, 110, 106]⟩), .int .i64 (0), .int .i64 0] 35)).ownsRow B 35 4 (.slice (some ⟨w4.heap.size, 0, none⟩) 1 1) 1 (rowOf zcell [⟨1, ⟨#[99, 111, 110, 106]⟩, 0, 0⟩])) := zh (tok_row HS4.out.big 1 (⟨#[99, 111, 110, 106]⟩) (0))
 have HA4 := zh (HS4.out.alloc (.cells #[.int .u8 1, .string (⟨#[99, 111, 110, 106]⟩), .int .i64 (0), .int .i64 0] 35))
 go_upto_region 27 with fail
 generalize w4.alloc _ = wa4 at *
 go_wp2_with fail
 refine (HL.out cK (some ⟨kb, ko, none⟩) wa4 HA4.out.bel HA4.out.kid).mono ?_
 rintro e w5 ⟨A5, c5, rfl, ho5, hb5⟩
 obtain ⟨m5, hm5⟩ : ∃ z, z = (sgB ⟨#[40]⟩ :: (commas 1 (shs [k]) ++ [sgB ⟨#[41]⟩])).length := ⟨_, rfl⟩
 have hm95 : m5 <= 900000 := by rw [hm5]; exact HLL.out
 rw [<- hm5] at ho5 |-
 have HM5 := zh hm5
 have HS5 := zh (HA4.out.below hb5)
 have HR5 := zh (own_below HR4.out hb5)
 have HX5 := zh (rdz_ow ho5 HM5.out)
 clear ho5 hb5 hm5
 go_wp2_with (at_builtin; refine wpList_app_z rfl (.tmp 129) (.tmp 132) rfl B (1) 1 m5 c5 (some ⟨w4.heap.size, 0, none⟩) A5 ([⟨1, ⟨#[99, 111, 110, 106]⟩, 0, 0⟩]) (sgB ⟨#[40]⟩ :: (commas 1 (shs [k]) ++ [sgB ⟨#[41]⟩])) rfl HR5.out rfl HM5.out HX5.out (by omega) HS5.out.big ?_; intro A6 c6 w6 ho6 hg6; have HR6 := zh ho6; have HS6 := zh (HS5.out.grown HR5.out hg6); clear ho6 hg6)
 go_ret
 exact rp_of (own_mono HR6.out HS6.out.lowB) (by rw [lna, <- HM5.out]; rfl) HS6.out.bel (rfl)
theorem rb52 (N : Nat) (hE : AtR N) (hB : BlockR N) (k : Tr) (hk : Rt 0 k ∧ k.flat.length <= N) (l : List Tw) (A : Option Addr) (c i : Nat) (r : List Tw) (w : World) (h : Twg w l A i r ⟨52, 1, 0, bs []⟩ [k]) :
 Calls prog 100 #[.slice A l.length c, .int .i64 (i : Nat)] w (RP w (bareS ⟨52, 1, 0, bs []⟩ (shs [k]))) := by
 have HT := zh h
 obtain ⟨ha1, hi, ha2, b, off, rfl, hbl, hrg⟩ := h.at_
 have HRG : Hid (w.rangeAt b (off + i * 4) [.int .u8 52, .int .i64 1, .int .i64 0, .string (bs [])]) := zh (hrg w (Below.refl _ _))
 have HKD := zh (fun W hW => h.kids c 1 rfl W hW)
 have HM := zh mark52
 have HL := zh (fun cK K W hW hK => h.lis hE (mem1 hk) ⟨#[40]⟩ ⟨#[41]⟩ c cK 1 rfl K W hW hK)
 have HLL : Hid ((sgB ⟨#[40]⟩ :: (commas 1 (shs [k]) ++ [sgB ⟨#[41]⟩])).length <= 900000) := zh (by rw [lnc, lna, List.length_singleton]; have := h.lisn (N := N) (mem1 hk); omega)
 obtain ⟨q, hq⟩ := ex l.length
 have HQ := zh hq
 have hq9 : q <= 100000 := by have := h.len; omega
 rw [<- hq] at hi |-
 have a0 : (0 : Int) <= (i : Int) := by omega
 have a1 : (i : Int) < (q : Int) := by omega
 have HB0 := zh (Blk.new w 42 #[.int .u8 0, .int .i64 0, .int .i64 0, .string ⟨#[]⟩])
 have HWB := zh ((Below.refl w.heap.size w).alloc (nlr _) (.cells #[.int .u8 52, .int .i64 1, .int .i64 0, .string (bs [])] 42))
 have HWA := zh (Blk.new w 42 #[.int .u8 52, .int .i64 1, .int .i64 0, .string (bs [])])
 rw [<- HQ.out] at HKD HL
 clear h hrg hE hB hq hbl ha1 ha2
 go_in
 go_upto_region 2 with (first | (refine wpList_load_mid rfl 42 (.tmp 17) rfl b (off + i * 4) rfl [.int .u8 52, .int .i64 1, .int .i64 0, .string (bs [])] (.struct _) HRG.out underlying42 rfl (by kernel_rfl) ?_) | (refine wpList_store_row rfl 42 (.tmp 5) (.tmp 18) rfl w.heap.size #[.int .u8 52, .int .i64 1, .int .i64 0, .string (bs [])] rfl rfl 42 #[.int .u8 0, .int .i64 0, .int .i64 0, .string ⟨#[]⟩] HB0.out (by kernel_rfl) rfl (by kernel_rfl) ?_; rw [World.setRow_alloc_new]) | fail)
 clear HB0
 obtain ⟨g, hg⟩ := ex w.heap.size
 rw [<- hg] at HWA |-
 generalize w.alloc _ = wa at *
 have HG := zh hg
 clear hg
 go_wp2_with fail
 refine (HKD.out wa HWB.out).mono ?_
 rintro e w2 ⟨K, cK, rfl, hcK, hK, hKb, hb2⟩
 obtain ⟨B, hBw⟩ := ex w2.heap.size
 have HS : Hid (Bst w w2 B g ⟨52, 1, 0, bs []⟩ K [k] i) := zh (Bst.new (w2' := w2) (HWB.out.trans (hb2.mono HWB.out.size)) ((hb2.block _ HWA.out.lt).trans HWA.out) hK (by rw [HG.out]; exact nlr _) hBw)
 have hg2 : g < w2.heap.size := HS.out.blk.lt
 have c0 : w2.cell? ⟨g, 0, none⟩ = some (.int .u8 52) := HS.out.blk.cell 0
 have c2 : w2.cell? ⟨g, 2, none⟩ = some (.int .i64 (0)) := HS.out.blk.cell 2
 have c3 : w2.cell? ⟨g, 3, none⟩ = some (.string (bs [])) := HS.out.blk.cell 3
 have HKB := zh (ai hKb hcK)
 clear hK hKb hb2 hcK hBw
 obtain ⟨kb, ko, rfl⟩ := HS.out.place (by simp)
 go_wp2_with fail
 refine (rwidth52 _).mono ?_
 rintro e w3 ⟨rfl, hw⟩
 rw [hw]
 clear hw w3
 go_wp2_with fail
 refine (HM.out w2).mono ?_
 rintro e w4 ⟨rfl, hb4⟩
 have HS4 := zh (HS.out.below hb4)
 clear hb4
 have HR4 : Hid ((w4.alloc (.cells #[.int .u8 1, .string (⟨#[116, 105, 109, 101, 114]⟩), .int .i64 (0), .int .i64 0] 35)).ownsRow B 35 4 (.slice (some ⟨w4.heap.size, 0, none⟩) 1 1) 1 (rowOf zcell [⟨1, ⟨#[116, 105, 109, 101, 114]⟩, 0, 0⟩])) := zh (tok_row HS4.out.big 1 (⟨#[116, 105, 109, 101, 114]⟩) (0))
 have HA4 := zh (HS4.out.alloc (.cells #[.int .u8 1, .string (⟨#[116, 105, 109, 101, 114]⟩), .int .i64 (0), .int .i64 0] 35))
 go_upto_region 27 with fail
 generalize w4.alloc _ = wa4 at *
 go_wp2_with fail
 refine (HL.out cK (some ⟨kb, ko, none⟩) wa4 HA4.out.bel HA4.out.kid).mono ?_
 rintro e w5 ⟨A5, c5, rfl, ho5, hb5⟩
 obtain ⟨m5, hm5⟩ : ∃ z, z = (sgB ⟨#[40]⟩ :: (commas 1 (shs [k]) ++ [sgB ⟨#[41]⟩])).length := ⟨_, rfl⟩
 have hm95 : m5 <= 900000 := by rw [hm5]; exact HLL.out
 rw [<- hm5] at ho5 |-
 have HM5 := zh hm5
 have HS5 := zh (HA4.out.below hb5)
 have HR5 := zh (own_below HR4.out hb5)
 have HX5 := zh (rdz_ow ho5 HM5.out)
 clear ho5 hb5 hm5
 go_wp2_with (at_builtin; refine wpList_app_z rfl (.tmp 129) (.tmp 132) rfl B (1) 1 m5 c5 (some ⟨w4.heap.size, 0, none⟩) A5 ([⟨1, ⟨#[116, 105, 109, 101, 114]⟩, 0, 0⟩]) (sgB ⟨#[40]⟩ :: (commas 1 (shs [k]) ++ [sgB ⟨#[41]⟩])) rfl HR5.out rfl HM5.out HX5.out (by omega) HS5.out.big ?_; intro A6 c6 w6 ho6 hg6; have HR6 := zh ho6; have HS6 := zh (HS5.out.grown HR5.out hg6); clear ho6 hg6)
 go_ret
 exact rp_of (own_mono HR6.out HS6.out.lowB) (by rw [lna, <- HM5.out]; rfl) HS6.out.bel (rfl)
theorem rb41 (N : Nat) (hE : AtR N) (hB : BlockR N) (k j : Tr) (hk : Rt 0 k ∧ k.flat.length <= N) (hj : Rt 0 j ∧ j.flat.length <= N) (l : List Tw) (A : Option Addr) (c i : Nat) (r : List Tw) (w : World) (h : Twg w l A i r ⟨41, 2, 0, bs []⟩ [k, j]) :
 Calls prog 100 #[.slice A l.length c, .int .i64 (i : Nat)] w (RP w (bareS ⟨41, 2, 0, bs []⟩ (shs [k, j]))) := by
 have HT := zh h
 obtain ⟨ha1, hi, ha2, b, off, rfl, hbl, hrg⟩ := h.at_
 have HRG : Hid (w.rangeAt b (off + i * 4) [.int .u8 41, .int .i64 2, .int .i64 0, .string (bs [])]) := zh (hrg w (Below.refl _ _))
 have HKD := zh (fun W hW => h.kids c 2 rfl W hW)
 have HM := zh mark41
 have HL := zh (fun cK K W hW hK => h.lis hE (mem2 hk hj) ⟨#[40]⟩ ⟨#[41]⟩ c cK 2 rfl K W hW hK)
 have HLL : Hid ((sgB ⟨#[40]⟩ :: (commas 1 (shs [k, j]) ++ [sgB ⟨#[41]⟩])).length <= 900000) := zh (by rw [lnc, lna, List.length_singleton]; have := h.lisn (N := N) (mem2 hk hj); omega)
 obtain ⟨q, hq⟩ := ex l.length
 have HQ := zh hq
 have hq9 : q <= 100000 := by have := h.len; omega
 rw [<- hq] at hi |-
 have a0 : (0 : Int) <= (i : Int) := by omega
 have a1 : (i : Int) < (q : Int) := by omega
 have HB0 := zh (Blk.new w 42 #[.int .u8 0, .int .i64 0, .int .i64 0, .string ⟨#[]⟩])
 have HWB := zh ((Below.refl w.heap.size w).alloc (nlr _) (.cells #[.int .u8 41, .int .i64 2, .int .i64 0, .string (bs [])] 42))
 have HWA := zh (Blk.new w 42 #[.int .u8 41, .int .i64 2, .int .i64 0, .string (bs [])])
 rw [<- HQ.out] at HKD HL
 clear h hrg hE hB hq hbl ha1 ha2
 go_in
 go_upto_region 2 with (first | (refine wpList_load_mid rfl 42 (.tmp 17) rfl b (off + i * 4) rfl [.int .u8 41, .int .i64 2, .int .i64 0, .string (bs [])] (.struct _) HRG.out underlying42 rfl (by kernel_rfl) ?_) | (refine wpList_store_row rfl 42 (.tmp 5) (.tmp 18) rfl w.heap.size #[.int .u8 41, .int .i64 2, .int .i64 0, .string (bs [])] rfl rfl 42 #[.int .u8 0, .int .i64 0, .int .i64 0, .string ⟨#[]⟩] HB0.out (by kernel_rfl) rfl (by kernel_rfl) ?_; rw [World.setRow_alloc_new]) | fail)
 clear HB0
 obtain ⟨g, hg⟩ := ex w.heap.size
 rw [<- hg] at HWA |-
 generalize w.alloc _ = wa at *
 have HG := zh hg
 clear hg
 go_wp2_with fail
 refine (HKD.out wa HWB.out).mono ?_
 rintro e w2 ⟨K, cK, rfl, hcK, hK, hKb, hb2⟩
 obtain ⟨B, hBw⟩ := ex w2.heap.size
 have HS : Hid (Bst w w2 B g ⟨41, 2, 0, bs []⟩ K [k, j] i) := zh (Bst.new (w2' := w2) (HWB.out.trans (hb2.mono HWB.out.size)) ((hb2.block _ HWA.out.lt).trans HWA.out) hK (by rw [HG.out]; exact nlr _) hBw)
 have hg2 : g < w2.heap.size := HS.out.blk.lt
 have c0 : w2.cell? ⟨g, 0, none⟩ = some (.int .u8 41) := HS.out.blk.cell 0
 have c2 : w2.cell? ⟨g, 2, none⟩ = some (.int .i64 (0)) := HS.out.blk.cell 2
 have c3 : w2.cell? ⟨g, 3, none⟩ = some (.string (bs [])) := HS.out.blk.cell 3
 have HKB := zh (ai hKb hcK)
 clear hK hKb hb2 hcK hBw
 obtain ⟨kb, ko, rfl⟩ := HS.out.place (by simp)
 go_wp2_with fail
 refine (rwidth41 _).mono ?_
 rintro e w3 ⟨rfl, hw⟩
 rw [hw]
 clear hw w3
 go_wp2_with fail
 refine (HM.out w2).mono ?_
 rintro e w4 ⟨rfl, hb4⟩
 have HS4 := zh (HS.out.below hb4)
 clear hb4
 have HR4 : Hid ((w4.alloc (.cells #[.int .u8 1, .string (⟨#[110, 117, 109]⟩), .int .i64 (0), .int .i64 0] 35)).ownsRow B 35 4 (.slice (some ⟨w4.heap.size, 0, none⟩) 1 1) 1 (rowOf zcell [⟨1, ⟨#[110, 117, 109]⟩, 0, 0⟩])) := zh (tok_row HS4.out.big 1 (⟨#[110, 117, 109]⟩) (0))
 have HA4 := zh (HS4.out.alloc (.cells #[.int .u8 1, .string (⟨#[110, 117, 109]⟩), .int .i64 (0), .int .i64 0] 35))
 go_upto_region 27 with fail
 generalize w4.alloc _ = wa4 at *
 go_wp2_with fail
 refine (HL.out cK (some ⟨kb, ko, none⟩) wa4 HA4.out.bel HA4.out.kid).mono ?_
 rintro e w5 ⟨A5, c5, rfl, ho5, hb5⟩
 obtain ⟨m5, hm5⟩ : ∃ z, z = (sgB ⟨#[40]⟩ :: (commas 1 (shs [k, j]) ++ [sgB ⟨#[41]⟩])).length := ⟨_, rfl⟩
 have hm95 : m5 <= 900000 := by rw [hm5]; exact HLL.out
 rw [<- hm5] at ho5 |-
 have HM5 := zh hm5
 have HS5 := zh (HA4.out.below hb5)
 have HR5 := zh (own_below HR4.out hb5)
 have HX5 := zh (rdz_ow ho5 HM5.out)
 clear ho5 hb5 hm5
 go_wp2_with (at_builtin; refine wpList_app_z rfl (.tmp 129) (.tmp 132) rfl B (1) 1 m5 c5 (some ⟨w4.heap.size, 0, none⟩) A5 ([⟨1, ⟨#[110, 117, 109]⟩, 0, 0⟩]) (sgB ⟨#[40]⟩ :: (commas 1 (shs [k, j]) ++ [sgB ⟨#[41]⟩])) rfl HR5.out rfl HM5.out HX5.out (by omega) HS5.out.big ?_; intro A6 c6 w6 ho6 hg6; have HR6 := zh ho6; have HS6 := zh (HS5.out.grown HR5.out hg6); clear ho6 hg6)
 go_ret
 exact rp_of (own_mono HR6.out HS6.out.lowB) (by rw [lna, <- HM5.out]; rfl) HS6.out.bel (rfl)
theorem rb32 (N : Nat) (hE : AtR N) (hB : BlockR N) (k j : Tr) (hk : Rt 0 k ∧ k.flat.length <= N) (hj : Rt 0 j ∧ j.flat.length <= N) (l : List Tw) (A : Option Addr) (c i : Nat) (r : List Tw) (w : World) (h : Twg w l A i r ⟨32, 2, 0, bs []⟩ [k, j]) :
 Calls prog 100 #[.slice A l.length c, .int .i64 (i : Nat)] w (RP w (bareS ⟨32, 2, 0, bs []⟩ (shs [k, j]))) := by
 have HT := zh h
 obtain ⟨ha1, hi, ha2, b, off, rfl, hbl, hrg⟩ := h.at_
 have HRG : Hid (w.rangeAt b (off + i * 4) [.int .u8 32, .int .i64 2, .int .i64 0, .string (bs [])]) := zh (hrg w (Below.refl _ _))
 have HKD := zh (fun W hW => h.kids c 2 rfl W hW)
 have HM := zh mark32
 obtain ⟨z0, hz0⟩ : ∃ z, z = i + 1 + (flats ([k, j].take 0)).length := ⟨_, rfl⟩
 have HZ0 := zh hz0
 have hz90 : z0 <= 100000 := by rw [hz0]; exact h.pos (j := 0) (k := k) rfl
 have HC0 := zh (fun W hW => h.kid hE (j := 0) (k := k) rfl hk c 5 (by omega) W hW)
 rw [<- hz0] at HC0
 have HF0 : Hid ((sh k 5).length <= 900000) := zh (Nat.le_trans (h.few (k := k) (by simp) ((few_any hk.1).1 rfl 5 (by omega))) (by omega))
 clear hz0
 obtain ⟨z1, hz1⟩ : ∃ z, z = i + 1 + (flats ([k, j].take 1)).length := ⟨_, rfl⟩
 have HZ1 := zh hz1
 have hz91 : z1 <= 100000 := by rw [hz1]; exact h.pos (j := 1) (k := j) rfl
 have HC1 := zh (fun W hW => h.kid hE (j := 1) (k := j) rfl hj c 5 (by omega) W hW)
 rw [<- hz1] at HC1
 have HF1 : Hid ((sh j 5).length <= 900000) := zh (Nat.le_trans (h.few (k := j) (by simp) ((few_any hj.1).1 rfl 5 (by omega))) (by omega))
 clear hz1
 obtain ⟨q, hq⟩ := ex l.length
 have HQ := zh hq
 have hq9 : q <= 100000 := by have := h.len; omega
 rw [<- hq] at hi |-
 have a0 : (0 : Int) <= (i : Int) := by omega
 have a1 : (i : Int) < (q : Int) := by omega
 have HB0 := zh (Blk.new w 42 #[.int .u8 0, .int .i64 0, .int .i64 0, .string ⟨#[]⟩])
 have HWB := zh ((Below.refl w.heap.size w).alloc (nlr _) (.cells #[.int .u8 32, .int .i64 2, .int .i64 0, .string (bs [])] 42))
 have HWA := zh (Blk.new w 42 #[.int .u8 32, .int .i64 2, .int .i64 0, .string (bs [])])
 rw [<- HQ.out] at HKD HC0 HC1
 clear h hrg hE hB hq hbl ha1 ha2
 go_in
 go_upto_region 2 with (first | (refine wpList_load_mid rfl 42 (.tmp 17) rfl b (off + i * 4) rfl [.int .u8 32, .int .i64 2, .int .i64 0, .string (bs [])] (.struct _) HRG.out underlying42 rfl (by kernel_rfl) ?_) | (refine wpList_store_row rfl 42 (.tmp 5) (.tmp 18) rfl w.heap.size #[.int .u8 32, .int .i64 2, .int .i64 0, .string (bs [])] rfl rfl 42 #[.int .u8 0, .int .i64 0, .int .i64 0, .string ⟨#[]⟩] HB0.out (by kernel_rfl) rfl (by kernel_rfl) ?_; rw [World.setRow_alloc_new]) | fail)
 clear HB0
 obtain ⟨g, hg⟩ := ex w.heap.size
 rw [<- hg] at HWA |-
 generalize w.alloc _ = wa at *
 have HG := zh hg
 clear hg
 go_wp2_with fail
 refine (HKD.out wa HWB.out).mono ?_
 rintro e w2 ⟨K, cK, rfl, hcK, hK, hKb, hb2⟩
 obtain ⟨B, hBw⟩ := ex w2.heap.size
 have HS : Hid (Bst w w2 B g ⟨32, 2, 0, bs []⟩ K [k, j] i) := zh (Bst.new (w2' := w2) (HWB.out.trans (hb2.mono HWB.out.size)) ((hb2.block _ HWA.out.lt).trans HWA.out) hK (by rw [HG.out]; exact nlr _) hBw)
 have hg2 : g < w2.heap.size := HS.out.blk.lt
 have c0 : w2.cell? ⟨g, 0, none⟩ = some (.int .u8 32) := HS.out.blk.cell 0
 have c2 : w2.cell? ⟨g, 2, none⟩ = some (.int .i64 (0)) := HS.out.blk.cell 2
 have c3 : w2.cell? ⟨g, 3, none⟩ = some (.string (bs [])) := HS.out.blk.cell 3
 have HKB := zh (ai hKb hcK)
 clear hK hKb hb2 hcK hBw
 obtain ⟨kb, ko, rfl⟩ := HS.out.place (by simp)
 have kk00 : w2.cell? ⟨kb, ko, none⟩ = some (.int .i64 (z0 : Nat)) := HS.out.kcell (j := 0) rfl HZ0.out
 go_wp2_with fail
 refine (rwidth32 _).mono ?_
 rintro e w3 ⟨rfl, hw⟩
 rw [hw]
 clear hw w3
 go_wp2_with fail
 refine (HC0.out w2 HS.out.bel).mono ?_
 rintro e w4 ⟨A4, c4, rfl, ho4, hb4⟩
 obtain ⟨m4, hm4⟩ : ∃ z, z = (sh k 5).length := ⟨_, rfl⟩
 have hm94 : m4 <= 900000 := by rw [hm4]; exact HF0.out
 rw [<- hm4] at ho4 |-
 have HM4 := zh hm4
 have HS4 := zh (HS.out.below hb4)
 have HR4 := zh (own_mono ho4 HS.out.big)
 clear ho4 hb4 hm4
 have k40 := HS4.out.blk.cell 0
 go_wp2_with fail
 refine (HM.out w4).mono ?_
 rintro e w5 ⟨rfl, hb5⟩
 have HS5 := zh (HS4.out.below hb5)
 have HR5 := zh (own_below HR4.out hb5)
 clear hb5
 have HX6 : Hid ((w5.alloc (.cells #[.int .u8 4, .string (⟨#[61, 61]⟩), .int .i64 (0), .int .i64 0] 35)).ownsRow B 35 4 (.slice A4 (m4) c4) (m4) (rowOf zcell (sh k 5)) ∧ RdZ (w5.alloc (.cells #[.int .u8 4, .string (⟨#[61, 61]⟩), .int .i64 (0), .int .i64 0] 35)) (some ⟨w5.heap.size, 0, none⟩) [⟨4, ⟨#[61, 61]⟩, 0, 0⟩]) := zh ⟨HR5.out.alloc _, tok_read 4 (⟨#[61, 61]⟩) (0)⟩
 have HA6 := zh (HS5.out.alloc (.cells #[.int .u8 4, .string (⟨#[61, 61]⟩), .int .i64 (0), .int .i64 0] 35))
 go_wp2_with (at_builtin; refine wpList_app_z rfl (.tmp 161) (.tmp 165) rfl B (m4) c4 1 1 A4 (some ⟨w5.heap.size, 0, none⟩) (sh k 5) [⟨4, ⟨#[61, 61]⟩, 0, 0⟩] rfl HX6.out.1 rfl rfl HX6.out.2 (by omega) HA6.out.big ?_; intro A6 c6 w6 ho6 hg6; have HR6 := zh ho6; have HS6 := zh (HA6.out.grown HX6.out.1 hg6); clear ho6 hg6; have kk61 : w6.cell? ⟨kb, ko + 1, none⟩ = some (.int .i64 (z1 : Nat)) := HS6.out.kcell (j := 1) rfl HZ1.out)
 refine (HC1.out w6 HS6.out.bel).mono ?_
 rintro e w7 ⟨A7, c7, rfl, ho7, hb7⟩
 obtain ⟨m7, hm7⟩ : ∃ z, z = (sh j 5).length := ⟨_, rfl⟩
 have hm97 : m7 <= 900000 := by rw [hm7]; exact HF1.out
 rw [<- hm7] at ho7 |-
 have HM7 := zh hm7
 have HS7 := zh (HS6.out.below hb7)
 have HR7 := zh (own_below HR6.out hb7)
 have HX7 := zh (rdz_ow ho7 HM7.out)
 clear ho7 hb7 hm7
 go_wp2_with (at_builtin; refine wpList_app_z rfl (.tmp 167) (.tmp 172) rfl B (m4 + 1) c6 m7 c7 A6 A7 (sh k 5 ++ [⟨4, ⟨#[61, 61]⟩, 0, 0⟩]) (sh j 5) rfl HR7.out rfl HM7.out HX7.out (by omega) HS7.out.big ?_; intro A8 c8 w8 ho8 hg8; have HR8 := zh ho8; have HS8 := zh (HS7.out.grown HR7.out hg8); clear ho8 hg8)
 go_ret
 exact rp_of (own_mono HR8.out HS8.out.lowB) (by rw [lna, lna, <- HM4.out, <- HM7.out]; rfl) HS8.out.bel (by rw [List.append_assoc]; rfl)
theorem rb33 (N : Nat) (hE : AtR N) (hB : BlockR N) (k j : Tr) (hk : Rt 0 k ∧ k.flat.length <= N) (hj : Rt 0 j ∧ j.flat.length <= N) (l : List Tw) (A : Option Addr) (c i : Nat) (r : List Tw) (w : World) (h : Twg w l A i r ⟨33, 2, 0, bs []⟩ [k, j]) :
 Calls prog 100 #[.slice A l.length c, .int .i64 (i : Nat)] w (RP w (bareS ⟨33, 2, 0, bs []⟩ (shs [k, j]))) := by
 have HT := zh h
 obtain ⟨ha1, hi, ha2, b, off, rfl, hbl, hrg⟩ := h.at_
 have HRG : Hid (w.rangeAt b (off + i * 4) [.int .u8 33, .int .i64 2, .int .i64 0, .string (bs [])]) := zh (hrg w (Below.refl _ _))
 have HKD := zh (fun W hW => h.kids c 2 rfl W hW)
 have HM := zh mark33
 obtain ⟨z0, hz0⟩ : ∃ z, z = i + 1 + (flats ([k, j].take 0)).length := ⟨_, rfl⟩
 have HZ0 := zh hz0
 have hz90 : z0 <= 100000 := by rw [hz0]; exact h.pos (j := 0) (k := k) rfl
 have HC0 := zh (fun W hW => h.kid hE (j := 0) (k := k) rfl hk c 5 (by omega) W hW)
 rw [<- hz0] at HC0
 have HF0 : Hid ((sh k 5).length <= 900000) := zh (Nat.le_trans (h.few (k := k) (by simp) ((few_any hk.1).1 rfl 5 (by omega))) (by omega))
 clear hz0
 obtain ⟨z1, hz1⟩ : ∃ z, z = i + 1 + (flats ([k, j].take 1)).length := ⟨_, rfl⟩
 have HZ1 := zh hz1
 have hz91 : z1 <= 100000 := by rw [hz1]; exact h.pos (j := 1) (k := j) rfl
 have HC1 := zh (fun W hW => h.kid hE (j := 1) (k := j) rfl hj c 5 (by omega) W hW)
 rw [<- hz1] at HC1
 have HF1 : Hid ((sh j 5).length <= 900000) := zh (Nat.le_trans (h.few (k := j) (by simp) ((few_any hj.1).1 rfl 5 (by omega))) (by omega))
 clear hz1
 obtain ⟨q, hq⟩ := ex l.length
 have HQ := zh hq
 have hq9 : q <= 100000 := by have := h.len; omega
 rw [<- hq] at hi |-
 have a0 : (0 : Int) <= (i : Int) := by omega
 have a1 : (i : Int) < (q : Int) := by omega
 have HB0 := zh (Blk.new w 42 #[.int .u8 0, .int .i64 0, .int .i64 0, .string ⟨#[]⟩])
 have HWB := zh ((Below.refl w.heap.size w).alloc (nlr _) (.cells #[.int .u8 33, .int .i64 2, .int .i64 0, .string (bs [])] 42))
 have HWA := zh (Blk.new w 42 #[.int .u8 33, .int .i64 2, .int .i64 0, .string (bs [])])
 rw [<- HQ.out] at HKD HC0 HC1
 clear h hrg hE hB hq hbl ha1 ha2
 go_in
 go_upto_region 2 with (first | (refine wpList_load_mid rfl 42 (.tmp 17) rfl b (off + i * 4) rfl [.int .u8 33, .int .i64 2, .int .i64 0, .string (bs [])] (.struct _) HRG.out underlying42 rfl (by kernel_rfl) ?_) | (refine wpList_store_row rfl 42 (.tmp 5) (.tmp 18) rfl w.heap.size #[.int .u8 33, .int .i64 2, .int .i64 0, .string (bs [])] rfl rfl 42 #[.int .u8 0, .int .i64 0, .int .i64 0, .string ⟨#[]⟩] HB0.out (by kernel_rfl) rfl (by kernel_rfl) ?_; rw [World.setRow_alloc_new]) | fail)
 clear HB0
 obtain ⟨g, hg⟩ := ex w.heap.size
 rw [<- hg] at HWA |-
 generalize w.alloc _ = wa at *
 have HG := zh hg
 clear hg
 go_wp2_with fail
 refine (HKD.out wa HWB.out).mono ?_
 rintro e w2 ⟨K, cK, rfl, hcK, hK, hKb, hb2⟩
 obtain ⟨B, hBw⟩ := ex w2.heap.size
 have HS : Hid (Bst w w2 B g ⟨33, 2, 0, bs []⟩ K [k, j] i) := zh (Bst.new (w2' := w2) (HWB.out.trans (hb2.mono HWB.out.size)) ((hb2.block _ HWA.out.lt).trans HWA.out) hK (by rw [HG.out]; exact nlr _) hBw)
 have hg2 : g < w2.heap.size := HS.out.blk.lt
 have c0 : w2.cell? ⟨g, 0, none⟩ = some (.int .u8 33) := HS.out.blk.cell 0
 have c2 : w2.cell? ⟨g, 2, none⟩ = some (.int .i64 (0)) := HS.out.blk.cell 2
 have c3 : w2.cell? ⟨g, 3, none⟩ = some (.string (bs [])) := HS.out.blk.cell 3
 have HKB := zh (ai hKb hcK)
 clear hK hKb hb2 hcK hBw
 obtain ⟨kb, ko, rfl⟩ := HS.out.place (by simp)
 have kk00 : w2.cell? ⟨kb, ko, none⟩ = some (.int .i64 (z0 : Nat)) := HS.out.kcell (j := 0) rfl HZ0.out
 go_wp2_with fail
 refine (rwidth33 _).mono ?_
 rintro e w3 ⟨rfl, hw⟩
 rw [hw]
 clear hw w3
 go_wp2_with fail
 refine (HC0.out w2 HS.out.bel).mono ?_
 rintro e w4 ⟨A4, c4, rfl, ho4, hb4⟩
 obtain ⟨m4, hm4⟩ : ∃ z, z = (sh k 5).length := ⟨_, rfl⟩
 have hm94 : m4 <= 900000 := by rw [hm4]; exact HF0.out
 rw [<- hm4] at ho4 |-
 have HM4 := zh hm4
 have HS4 := zh (HS.out.below hb4)
 have HR4 := zh (own_mono ho4 HS.out.big)
 clear ho4 hb4 hm4
 have k40 := HS4.out.blk.cell 0
 go_wp2_with fail
 refine (HM.out w4).mono ?_
 rintro e w5 ⟨rfl, hb5⟩
 have HS5 := zh (HS4.out.below hb5)
 have HR5 := zh (own_below HR4.out hb5)
 clear hb5
 have HX6 : Hid ((w5.alloc (.cells #[.int .u8 4, .string (⟨#[33, 61]⟩), .int .i64 (0), .int .i64 0] 35)).ownsRow B 35 4 (.slice A4 (m4) c4) (m4) (rowOf zcell (sh k 5)) ∧ RdZ (w5.alloc (.cells #[.int .u8 4, .string (⟨#[33, 61]⟩), .int .i64 (0), .int .i64 0] 35)) (some ⟨w5.heap.size, 0, none⟩) [⟨4, ⟨#[33, 61]⟩, 0, 0⟩]) := zh ⟨HR5.out.alloc _, tok_read 4 (⟨#[33, 61]⟩) (0)⟩
 have HA6 := zh (HS5.out.alloc (.cells #[.int .u8 4, .string (⟨#[33, 61]⟩), .int .i64 (0), .int .i64 0] 35))
 go_wp2_with (at_builtin; refine wpList_app_z rfl (.tmp 161) (.tmp 165) rfl B (m4) c4 1 1 A4 (some ⟨w5.heap.size, 0, none⟩) (sh k 5) [⟨4, ⟨#[33, 61]⟩, 0, 0⟩] rfl HX6.out.1 rfl rfl HX6.out.2 (by omega) HA6.out.big ?_; intro A6 c6 w6 ho6 hg6; have HR6 := zh ho6; have HS6 := zh (HA6.out.grown HX6.out.1 hg6); clear ho6 hg6; have kk61 : w6.cell? ⟨kb, ko + 1, none⟩ = some (.int .i64 (z1 : Nat)) := HS6.out.kcell (j := 1) rfl HZ1.out)
 refine (HC1.out w6 HS6.out.bel).mono ?_
 rintro e w7 ⟨A7, c7, rfl, ho7, hb7⟩
 obtain ⟨m7, hm7⟩ : ∃ z, z = (sh j 5).length := ⟨_, rfl⟩
 have hm97 : m7 <= 900000 := by rw [hm7]; exact HF1.out
 rw [<- hm7] at ho7 |-
 have HM7 := zh hm7
 have HS7 := zh (HS6.out.below hb7)
 have HR7 := zh (own_below HR6.out hb7)
 have HX7 := zh (rdz_ow ho7 HM7.out)
 clear ho7 hb7 hm7
 go_wp2_with (at_builtin; refine wpList_app_z rfl (.tmp 167) (.tmp 172) rfl B (m4 + 1) c6 m7 c7 A6 A7 (sh k 5 ++ [⟨4, ⟨#[33, 61]⟩, 0, 0⟩]) (sh j 5) rfl HR7.out rfl HM7.out HX7.out (by omega) HS7.out.big ?_; intro A8 c8 w8 ho8 hg8; have HR8 := zh ho8; have HS8 := zh (HS7.out.grown HR7.out hg8); clear ho8 hg8)
 go_ret
 exact rp_of (own_mono HR8.out HS8.out.lowB) (by rw [lna, lna, <- HM4.out, <- HM7.out]; rfl) HS8.out.bel (by rw [List.append_assoc]; rfl)
theorem rb34 (N : Nat) (hE : AtR N) (hB : BlockR N) (k j : Tr) (hk : Rt 0 k ∧ k.flat.length <= N) (hj : Rt 0 j ∧ j.flat.length <= N) (l : List Tw) (A : Option Addr) (c i : Nat) (r : List Tw) (w : World) (h : Twg w l A i r ⟨34, 2, 0, bs []⟩ [k, j]) :
 Calls prog 100 #[.slice A l.length c, .int .i64 (i : Nat)] w (RP w (bareS ⟨34, 2, 0, bs []⟩ (shs [k, j]))) := by
 have HT := zh h
 obtain ⟨ha1, hi, ha2, b, off, rfl, hbl, hrg⟩ := h.at_
 have HRG : Hid (w.rangeAt b (off + i * 4) [.int .u8 34, .int .i64 2, .int .i64 0, .string (bs [])]) := zh (hrg w (Below.refl _ _))
 have HKD := zh (fun W hW => h.kids c 2 rfl W hW)
 have HM := zh mark34
 obtain ⟨z0, hz0⟩ : ∃ z, z = i + 1 + (flats ([k, j].take 0)).length := ⟨_, rfl⟩
 have HZ0 := zh hz0
 have hz90 : z0 <= 100000 := by rw [hz0]; exact h.pos (j := 0) (k := k) rfl
 have HC0 := zh (fun W hW => h.kid hE (j := 0) (k := k) rfl hk c 5 (by omega) W hW)
 rw [<- hz0] at HC0
 have HF0 : Hid ((sh k 5).length <= 900000) := zh (Nat.le_trans (h.few (k := k) (by simp) ((few_any hk.1).1 rfl 5 (by omega))) (by omega))
 clear hz0
 obtain ⟨z1, hz1⟩ : ∃ z, z = i + 1 + (flats ([k, j].take 1)).length := ⟨_, rfl⟩
 have HZ1 := zh hz1
 have hz91 : z1 <= 100000 := by rw [hz1]; exact h.pos (j := 1) (k := j) rfl
 have HC1 := zh (fun W hW => h.kid hE (j := 1) (k := j) rfl hj c 5 (by omega) W hW)
 rw [<- hz1] at HC1
 have HF1 : Hid ((sh j 5).length <= 900000) := zh (Nat.le_trans (h.few (k := j) (by simp) ((few_any hj.1).1 rfl 5 (by omega))) (by omega))
 clear hz1
 obtain ⟨q, hq⟩ := ex l.length
 have HQ := zh hq
 have hq9 : q <= 100000 := by have := h.len; omega
 rw [<- hq] at hi |-
 have a0 : (0 : Int) <= (i : Int) := by omega
 have a1 : (i : Int) < (q : Int) := by omega
 have HB0 := zh (Blk.new w 42 #[.int .u8 0, .int .i64 0, .int .i64 0, .string ⟨#[]⟩])
 have HWB := zh ((Below.refl w.heap.size w).alloc (nlr _) (.cells #[.int .u8 34, .int .i64 2, .int .i64 0, .string (bs [])] 42))
 have HWA := zh (Blk.new w 42 #[.int .u8 34, .int .i64 2, .int .i64 0, .string (bs [])])
 rw [<- HQ.out] at HKD HC0 HC1
 clear h hrg hE hB hq hbl ha1 ha2
 go_in
 go_upto_region 2 with (first | (refine wpList_load_mid rfl 42 (.tmp 17) rfl b (off + i * 4) rfl [.int .u8 34, .int .i64 2, .int .i64 0, .string (bs [])] (.struct _) HRG.out underlying42 rfl (by kernel_rfl) ?_) | (refine wpList_store_row rfl 42 (.tmp 5) (.tmp 18) rfl w.heap.size #[.int .u8 34, .int .i64 2, .int .i64 0, .string (bs [])] rfl rfl 42 #[.int .u8 0, .int .i64 0, .int .i64 0, .string ⟨#[]⟩] HB0.out (by kernel_rfl) rfl (by kernel_rfl) ?_; rw [World.setRow_alloc_new]) | fail)
 clear HB0
 obtain ⟨g, hg⟩ := ex w.heap.size
 rw [<- hg] at HWA |-
 generalize w.alloc _ = wa at *
 have HG := zh hg
 clear hg
 go_wp2_with fail
 refine (HKD.out wa HWB.out).mono ?_
 rintro e w2 ⟨K, cK, rfl, hcK, hK, hKb, hb2⟩
 obtain ⟨B, hBw⟩ := ex w2.heap.size
 have HS : Hid (Bst w w2 B g ⟨34, 2, 0, bs []⟩ K [k, j] i) := zh (Bst.new (w2' := w2) (HWB.out.trans (hb2.mono HWB.out.size)) ((hb2.block _ HWA.out.lt).trans HWA.out) hK (by rw [HG.out]; exact nlr _) hBw)
 have hg2 : g < w2.heap.size := HS.out.blk.lt
 have c0 : w2.cell? ⟨g, 0, none⟩ = some (.int .u8 34) := HS.out.blk.cell 0
 have c2 : w2.cell? ⟨g, 2, none⟩ = some (.int .i64 (0)) := HS.out.blk.cell 2
 have c3 : w2.cell? ⟨g, 3, none⟩ = some (.string (bs [])) := HS.out.blk.cell 3
 have HKB := zh (ai hKb hcK)
 clear hK hKb hb2 hcK hBw
 obtain ⟨kb, ko, rfl⟩ := HS.out.place (by simp)
 have kk00 : w2.cell? ⟨kb, ko, none⟩ = some (.int .i64 (z0 : Nat)) := HS.out.kcell (j := 0) rfl HZ0.out
 go_wp2_with fail
 refine (rwidth34 _).mono ?_
 rintro e w3 ⟨rfl, hw⟩
 rw [hw]
 clear hw w3
 go_wp2_with fail
 refine (HC0.out w2 HS.out.bel).mono ?_
 rintro e w4 ⟨A4, c4, rfl, ho4, hb4⟩
 obtain ⟨m4, hm4⟩ : ∃ z, z = (sh k 5).length := ⟨_, rfl⟩
 have hm94 : m4 <= 900000 := by rw [hm4]; exact HF0.out
 rw [<- hm4] at ho4 |-
 have HM4 := zh hm4
 have HS4 := zh (HS.out.below hb4)
 have HR4 := zh (own_mono ho4 HS.out.big)
 clear ho4 hb4 hm4
 have k40 := HS4.out.blk.cell 0
 go_wp2_with fail
 refine (HM.out w4).mono ?_
 rintro e w5 ⟨rfl, hb5⟩
 have HS5 := zh (HS4.out.below hb5)
 have HR5 := zh (own_below HR4.out hb5)
 clear hb5
 have HX6 : Hid ((w5.alloc (.cells #[.int .u8 4, .string (⟨#[60]⟩), .int .i64 (0), .int .i64 0] 35)).ownsRow B 35 4 (.slice A4 (m4) c4) (m4) (rowOf zcell (sh k 5)) ∧ RdZ (w5.alloc (.cells #[.int .u8 4, .string (⟨#[60]⟩), .int .i64 (0), .int .i64 0] 35)) (some ⟨w5.heap.size, 0, none⟩) [⟨4, ⟨#[60]⟩, 0, 0⟩]) := zh ⟨HR5.out.alloc _, tok_read 4 (⟨#[60]⟩) (0)⟩
 have HA6 := zh (HS5.out.alloc (.cells #[.int .u8 4, .string (⟨#[60]⟩), .int .i64 (0), .int .i64 0] 35))
 go_wp2_with (at_builtin; refine wpList_app_z rfl (.tmp 161) (.tmp 165) rfl B (m4) c4 1 1 A4 (some ⟨w5.heap.size, 0, none⟩) (sh k 5) [⟨4, ⟨#[60]⟩, 0, 0⟩] rfl HX6.out.1 rfl rfl HX6.out.2 (by omega) HA6.out.big ?_; intro A6 c6 w6 ho6 hg6; have HR6 := zh ho6; have HS6 := zh (HA6.out.grown HX6.out.1 hg6); clear ho6 hg6; have kk61 : w6.cell? ⟨kb, ko + 1, none⟩ = some (.int .i64 (z1 : Nat)) := HS6.out.kcell (j := 1) rfl HZ1.out)
 refine (HC1.out w6 HS6.out.bel).mono ?_
 rintro e w7 ⟨A7, c7, rfl, ho7, hb7⟩
 obtain ⟨m7, hm7⟩ : ∃ z, z = (sh j 5).length := ⟨_, rfl⟩
 have hm97 : m7 <= 900000 := by rw [hm7]; exact HF1.out
 rw [<- hm7] at ho7 |-
 have HM7 := zh hm7
 have HS7 := zh (HS6.out.below hb7)
 have HR7 := zh (own_below HR6.out hb7)
 have HX7 := zh (rdz_ow ho7 HM7.out)
 clear ho7 hb7 hm7
 go_wp2_with (at_builtin; refine wpList_app_z rfl (.tmp 167) (.tmp 172) rfl B (m4 + 1) c6 m7 c7 A6 A7 (sh k 5 ++ [⟨4, ⟨#[60]⟩, 0, 0⟩]) (sh j 5) rfl HR7.out rfl HM7.out HX7.out (by omega) HS7.out.big ?_; intro A8 c8 w8 ho8 hg8; have HR8 := zh ho8; have HS8 := zh (HS7.out.grown HR7.out hg8); clear ho8 hg8)
 go_ret
 exact rp_of (own_mono HR8.out HS8.out.lowB) (by rw [lna, lna, <- HM4.out, <- HM7.out]; rfl) HS8.out.bel (by rw [List.append_assoc]; rfl)
theorem rb35 (N : Nat) (hE : AtR N) (hB : BlockR N) (k j : Tr) (hk : Rt 0 k ∧ k.flat.length <= N) (hj : Rt 0 j ∧ j.flat.length <= N) (l : List Tw) (A : Option Addr) (c i : Nat) (r : List Tw) (w : World) (h : Twg w l A i r ⟨35, 2, 0, bs []⟩ [k, j]) :
 Calls prog 100 #[.slice A l.length c, .int .i64 (i : Nat)] w (RP w (bareS ⟨35, 2, 0, bs []⟩ (shs [k, j]))) := by
 have HT := zh h
 obtain ⟨ha1, hi, ha2, b, off, rfl, hbl, hrg⟩ := h.at_
 have HRG : Hid (w.rangeAt b (off + i * 4) [.int .u8 35, .int .i64 2, .int .i64 0, .string (bs [])]) := zh (hrg w (Below.refl _ _))
 have HKD := zh (fun W hW => h.kids c 2 rfl W hW)
 have HM := zh mark35
 obtain ⟨z0, hz0⟩ : ∃ z, z = i + 1 + (flats ([k, j].take 0)).length := ⟨_, rfl⟩
 have HZ0 := zh hz0
 have hz90 : z0 <= 100000 := by rw [hz0]; exact h.pos (j := 0) (k := k) rfl
 have HC0 := zh (fun W hW => h.kid hE (j := 0) (k := k) rfl hk c 5 (by omega) W hW)
 rw [<- hz0] at HC0
 have HF0 : Hid ((sh k 5).length <= 900000) := zh (Nat.le_trans (h.few (k := k) (by simp) ((few_any hk.1).1 rfl 5 (by omega))) (by omega))
 clear hz0
 obtain ⟨z1, hz1⟩ : ∃ z, z = i + 1 + (flats ([k, j].take 1)).length := ⟨_, rfl⟩
 have HZ1 := zh hz1
 have hz91 : z1 <= 100000 := by rw [hz1]; exact h.pos (j := 1) (k := j) rfl
 have HC1 := zh (fun W hW => h.kid hE (j := 1) (k := j) rfl hj c 5 (by omega) W hW)
 rw [<- hz1] at HC1
 have HF1 : Hid ((sh j 5).length <= 900000) := zh (Nat.le_trans (h.few (k := j) (by simp) ((few_any hj.1).1 rfl 5 (by omega))) (by omega))
 clear hz1
 obtain ⟨q, hq⟩ := ex l.length
 have HQ := zh hq
 have hq9 : q <= 100000 := by have := h.len; omega
 rw [<- hq] at hi |-
 have a0 : (0 : Int) <= (i : Int) := by omega
 have a1 : (i : Int) < (q : Int) := by omega
 have HB0 := zh (Blk.new w 42 #[.int .u8 0, .int .i64 0, .int .i64 0, .string ⟨#[]⟩])
 have HWB := zh ((Below.refl w.heap.size w).alloc (nlr _) (.cells #[.int .u8 35, .int .i64 2, .int .i64 0, .string (bs [])] 42))
 have HWA := zh (Blk.new w 42 #[.int .u8 35, .int .i64 2, .int .i64 0, .string (bs [])])
 rw [<- HQ.out] at HKD HC0 HC1
 clear h hrg hE hB hq hbl ha1 ha2
 go_in
 go_upto_region 2 with (first | (refine wpList_load_mid rfl 42 (.tmp 17) rfl b (off + i * 4) rfl [.int .u8 35, .int .i64 2, .int .i64 0, .string (bs [])] (.struct _) HRG.out underlying42 rfl (by kernel_rfl) ?_) | (refine wpList_store_row rfl 42 (.tmp 5) (.tmp 18) rfl w.heap.size #[.int .u8 35, .int .i64 2, .int .i64 0, .string (bs [])] rfl rfl 42 #[.int .u8 0, .int .i64 0, .int .i64 0, .string ⟨#[]⟩] HB0.out (by kernel_rfl) rfl (by kernel_rfl) ?_; rw [World.setRow_alloc_new]) | fail)
 clear HB0
 obtain ⟨g, hg⟩ := ex w.heap.size
 rw [<- hg] at HWA |-
 generalize w.alloc _ = wa at *
 have HG := zh hg
 clear hg
 go_wp2_with fail
 refine (HKD.out wa HWB.out).mono ?_
 rintro e w2 ⟨K, cK, rfl, hcK, hK, hKb, hb2⟩
 obtain ⟨B, hBw⟩ := ex w2.heap.size
 have HS : Hid (Bst w w2 B g ⟨35, 2, 0, bs []⟩ K [k, j] i) := zh (Bst.new (w2' := w2) (HWB.out.trans (hb2.mono HWB.out.size)) ((hb2.block _ HWA.out.lt).trans HWA.out) hK (by rw [HG.out]; exact nlr _) hBw)
 have hg2 : g < w2.heap.size := HS.out.blk.lt
 have c0 : w2.cell? ⟨g, 0, none⟩ = some (.int .u8 35) := HS.out.blk.cell 0
 have c2 : w2.cell? ⟨g, 2, none⟩ = some (.int .i64 (0)) := HS.out.blk.cell 2
 have c3 : w2.cell? ⟨g, 3, none⟩ = some (.string (bs [])) := HS.out.blk.cell 3
 have HKB := zh (ai hKb hcK)
 clear hK hKb hb2 hcK hBw
 obtain ⟨kb, ko, rfl⟩ := HS.out.place (by simp)
 have kk00 : w2.cell? ⟨kb, ko, none⟩ = some (.int .i64 (z0 : Nat)) := HS.out.kcell (j := 0) rfl HZ0.out
 go_wp2_with fail
 refine (rwidth35 _).mono ?_
 rintro e w3 ⟨rfl, hw⟩
 rw [hw]
 clear hw w3
 go_wp2_with fail
 refine (HC0.out w2 HS.out.bel).mono ?_
 rintro e w4 ⟨A4, c4, rfl, ho4, hb4⟩
 obtain ⟨m4, hm4⟩ : ∃ z, z = (sh k 5).length := ⟨_, rfl⟩
 have hm94 : m4 <= 900000 := by rw [hm4]; exact HF0.out
 rw [<- hm4] at ho4 |-
 have HM4 := zh hm4
 have HS4 := zh (HS.out.below hb4)
 have HR4 := zh (own_mono ho4 HS.out.big)
 clear ho4 hb4 hm4
 have k40 := HS4.out.blk.cell 0
 go_wp2_with fail
 refine (HM.out w4).mono ?_
 rintro e w5 ⟨rfl, hb5⟩
 have HS5 := zh (HS4.out.below hb5)
 have HR5 := zh (own_below HR4.out hb5)
 clear hb5
 have HX6 : Hid ((w5.alloc (.cells #[.int .u8 4, .string (⟨#[60, 61]⟩), .int .i64 (0), .int .i64 0] 35)).ownsRow B 35 4 (.slice A4 (m4) c4) (m4) (rowOf zcell (sh k 5)) ∧ RdZ (w5.alloc (.cells #[.int .u8 4, .string (⟨#[60, 61]⟩), .int .i64 (0), .int .i64 0] 35)) (some ⟨w5.heap.size, 0, none⟩) [⟨4, ⟨#[60, 61]⟩, 0, 0⟩]) := zh ⟨HR5.out.alloc _, tok_read 4 (⟨#[60, 61]⟩) (0)⟩
 have HA6 := zh (HS5.out.alloc (.cells #[.int .u8 4, .string (⟨#[60, 61]⟩), .int .i64 (0), .int .i64 0] 35))
 go_wp2_with (at_builtin; refine wpList_app_z rfl (.tmp 161) (.tmp 165) rfl B (m4) c4 1 1 A4 (some ⟨w5.heap.size, 0, none⟩) (sh k 5) [⟨4, ⟨#[60, 61]⟩, 0, 0⟩] rfl HX6.out.1 rfl rfl HX6.out.2 (by omega) HA6.out.big ?_; intro A6 c6 w6 ho6 hg6; have HR6 := zh ho6; have HS6 := zh (HA6.out.grown HX6.out.1 hg6); clear ho6 hg6; have kk61 : w6.cell? ⟨kb, ko + 1, none⟩ = some (.int .i64 (z1 : Nat)) := HS6.out.kcell (j := 1) rfl HZ1.out)
 refine (HC1.out w6 HS6.out.bel).mono ?_
 rintro e w7 ⟨A7, c7, rfl, ho7, hb7⟩
 obtain ⟨m7, hm7⟩ : ∃ z, z = (sh j 5).length := ⟨_, rfl⟩
 have hm97 : m7 <= 900000 := by rw [hm7]; exact HF1.out
 rw [<- hm7] at ho7 |-
 have HM7 := zh hm7
 have HS7 := zh (HS6.out.below hb7)
 have HR7 := zh (own_below HR6.out hb7)
 have HX7 := zh (rdz_ow ho7 HM7.out)
 clear ho7 hb7 hm7
 go_wp2_with (at_builtin; refine wpList_app_z rfl (.tmp 167) (.tmp 172) rfl B (m4 + 1) c6 m7 c7 A6 A7 (sh k 5 ++ [⟨4, ⟨#[60, 61]⟩, 0, 0⟩]) (sh j 5) rfl HR7.out rfl HM7.out HX7.out (by omega) HS7.out.big ?_; intro A8 c8 w8 ho8 hg8; have HR8 := zh ho8; have HS8 := zh (HS7.out.grown HR7.out hg8); clear ho8 hg8)
 go_ret
 exact rp_of (own_mono HR8.out HS8.out.lowB) (by rw [lna, lna, <- HM4.out, <- HM7.out]; rfl) HS8.out.bel (by rw [List.append_assoc]; rfl)
theorem rb30 (N : Nat) (hE : AtR N) (hB : BlockR N) (k j : Tr) (hk : Rt 0 k ∧ k.flat.length <= N) (hj : Rt 0 j ∧ j.flat.length <= N) (l : List Tw) (A : Option Addr) (c i : Nat) (r : List Tw) (w : World) (h : Twg w l A i r ⟨30, 2, 0, bs []⟩ [k, j]) :
 Calls prog 100 #[.slice A l.length c, .int .i64 (i : Nat)] w (RP w (bareS ⟨30, 2, 0, bs []⟩ (shs [k, j]))) := by
 have HT := zh h
 obtain ⟨ha1, hi, ha2, b, off, rfl, hbl, hrg⟩ := h.at_
 have HRG : Hid (w.rangeAt b (off + i * 4) [.int .u8 30, .int .i64 2, .int .i64 0, .string (bs [])]) := zh (hrg w (Below.refl _ _))
 have HKD := zh (fun W hW => h.kids c 2 rfl W hW)
 have HM := zh mark30
 obtain ⟨z0, hz0⟩ : ∃ z, z = i + 1 + (flats ([k, j].take 0)).length := ⟨_, rfl⟩
 have HZ0 := zh hz0
 have hz90 : z0 <= 100000 := by rw [hz0]; exact h.pos (j := 0) (k := k) rfl
 have HC0 := zh (fun W hW => h.kid hE (j := 0) (k := k) rfl hk c 1 (by omega) W hW)
 rw [<- hz0] at HC0
 have HF0 : Hid ((sh k 1).length <= 900000) := zh (Nat.le_trans (h.few (k := k) (by simp) ((few_any hk.1).1 rfl 1 (by omega))) (by omega))
 clear hz0
 obtain ⟨z1, hz1⟩ : ∃ z, z = i + 1 + (flats ([k, j].take 1)).length := ⟨_, rfl⟩
 have HZ1 := zh hz1
 have hz91 : z1 <= 100000 := by rw [hz1]; exact h.pos (j := 1) (k := j) rfl
 have HC1 := zh (fun W hW => h.kid hE (j := 1) (k := j) rfl hj c 2 (by omega) W hW)
 rw [<- hz1] at HC1
 have HF1 : Hid ((sh j 2).length <= 900000) := zh (Nat.le_trans (h.few (k := j) (by simp) ((few_any hj.1).1 rfl 2 (by omega))) (by omega))
 clear hz1
 obtain ⟨q, hq⟩ := ex l.length
 have HQ := zh hq
 have hq9 : q <= 100000 := by have := h.len; omega
 rw [<- hq] at hi |-
 have a0 : (0 : Int) <= (i : Int) := by omega
 have a1 : (i : Int) < (q : Int) := by omega
 have HB0 := zh (Blk.new w 42 #[.int .u8 0, .int .i64 0, .int .i64 0, .string ⟨#[]⟩])
 have HWB := zh ((Below.refl w.heap.size w).alloc (nlr _) (.cells #[.int .u8 30, .int .i64 2, .int .i64 0, .string (bs [])] 42))
 have HWA := zh (Blk.new w 42 #[.int .u8 30, .int .i64 2, .int .i64 0, .string (bs [])])
 rw [<- HQ.out] at HKD HC0 HC1
 clear h hrg hE hB hq hbl ha1 ha2
 go_in
 go_upto_region 2 with (first | (refine wpList_load_mid rfl 42 (.tmp 17) rfl b (off + i * 4) rfl [.int .u8 30, .int .i64 2, .int .i64 0, .string (bs [])] (.struct _) HRG.out underlying42 rfl (by kernel_rfl) ?_) | (refine wpList_store_row rfl 42 (.tmp 5) (.tmp 18) rfl w.heap.size #[.int .u8 30, .int .i64 2, .int .i64 0, .string (bs [])] rfl rfl 42 #[.int .u8 0, .int .i64 0, .int .i64 0, .string ⟨#[]⟩] HB0.out (by kernel_rfl) rfl (by kernel_rfl) ?_; rw [World.setRow_alloc_new]) | fail)
 clear HB0
 obtain ⟨g, hg⟩ := ex w.heap.size
 rw [<- hg] at HWA |-
 generalize w.alloc _ = wa at *
 have HG := zh hg
 clear hg
 go_wp2_with fail
 refine (HKD.out wa HWB.out).mono ?_
 rintro e w2 ⟨K, cK, rfl, hcK, hK, hKb, hb2⟩
 obtain ⟨B, hBw⟩ := ex w2.heap.size
 have HS : Hid (Bst w w2 B g ⟨30, 2, 0, bs []⟩ K [k, j] i) := zh (Bst.new (w2' := w2) (HWB.out.trans (hb2.mono HWB.out.size)) ((hb2.block _ HWA.out.lt).trans HWA.out) hK (by rw [HG.out]; exact nlr _) hBw)
 have hg2 : g < w2.heap.size := HS.out.blk.lt
 have c0 : w2.cell? ⟨g, 0, none⟩ = some (.int .u8 30) := HS.out.blk.cell 0
 have c2 : w2.cell? ⟨g, 2, none⟩ = some (.int .i64 (0)) := HS.out.blk.cell 2
 have c3 : w2.cell? ⟨g, 3, none⟩ = some (.string (bs [])) := HS.out.blk.cell 3
 have HKB := zh (ai hKb hcK)
 clear hK hKb hb2 hcK hBw
 obtain ⟨kb, ko, rfl⟩ := HS.out.place (by simp)
 have kk00 : w2.cell? ⟨kb, ko, none⟩ = some (.int .i64 (z0 : Nat)) := HS.out.kcell (j := 0) rfl HZ0.out
 go_wp2_with fail
 refine (rwidth30 _).mono ?_
 rintro e w3 ⟨rfl, hw⟩
 rw [hw]
 clear hw w3
 go_wp2_with fail
 refine (HC0.out w2 HS.out.bel).mono ?_
 rintro e w4 ⟨A4, c4, rfl, ho4, hb4⟩
 obtain ⟨m4, hm4⟩ : ∃ z, z = (sh k 1).length := ⟨_, rfl⟩
 have hm94 : m4 <= 900000 := by rw [hm4]; exact HF0.out
 rw [<- hm4] at ho4 |-
 have HM4 := zh hm4
 have HS4 := zh (HS.out.below hb4)
 have HR4 := zh (own_mono ho4 HS.out.big)
 clear ho4 hb4 hm4
 have k40 := HS4.out.blk.cell 0
 go_wp2_with fail
 refine (HM.out w4).mono ?_
 rintro e w5 ⟨rfl, hb5⟩
 have HS5 := zh (HS4.out.below hb5)
 have HR5 := zh (own_below HR4.out hb5)
 clear hb5
 have HX6 : Hid ((w5.alloc (.cells #[.int .u8 1, .string (⟨#[111, 114]⟩), .int .i64 (0), .int .i64 0] 35)).ownsRow B 35 4 (.slice A4 (m4) c4) (m4) (rowOf zcell (sh k 1)) ∧ RdZ (w5.alloc (.cells #[.int .u8 1, .string (⟨#[111, 114]⟩), .int .i64 (0), .int .i64 0] 35)) (some ⟨w5.heap.size, 0, none⟩) [⟨1, ⟨#[111, 114]⟩, 0, 0⟩]) := zh ⟨HR5.out.alloc _, tok_read 1 (⟨#[111, 114]⟩) (0)⟩
 have HA6 := zh (HS5.out.alloc (.cells #[.int .u8 1, .string (⟨#[111, 114]⟩), .int .i64 (0), .int .i64 0] 35))
 go_wp2_with (at_builtin; refine wpList_app_z rfl (.tmp 180) (.tmp 184) rfl B (m4) c4 1 1 A4 (some ⟨w5.heap.size, 0, none⟩) (sh k 1) [⟨1, ⟨#[111, 114]⟩, 0, 0⟩] rfl HX6.out.1 rfl rfl HX6.out.2 (by omega) HA6.out.big ?_; intro A6 c6 w6 ho6 hg6; have HR6 := zh ho6; have HS6 := zh (HA6.out.grown HX6.out.1 hg6); clear ho6 hg6; have kk61 : w6.cell? ⟨kb, ko + 1, none⟩ = some (.int .i64 (z1 : Nat)) := HS6.out.kcell (j := 1) rfl HZ1.out)
 refine (HC1.out w6 HS6.out.bel).mono ?_
 rintro e w7 ⟨A7, c7, rfl, ho7, hb7⟩
 obtain ⟨m7, hm7⟩ : ∃ z, z = (sh j 2).length := ⟨_, rfl⟩
 have hm97 : m7 <= 900000 := by rw [hm7]; exact HF1.out
 rw [<- hm7] at ho7 |-
 have HM7 := zh hm7
 have HS7 := zh (HS6.out.below hb7)
 have HR7 := zh (own_below HR6.out hb7)
 have HX7 := zh (rdz_ow ho7 HM7.out)
 clear ho7 hb7 hm7
 go_wp2_with (at_builtin; refine wpList_app_z rfl (.tmp 186) (.tmp 193) rfl B (m4 + 1) c6 m7 c7 A6 A7 (sh k 1 ++ [⟨1, ⟨#[111, 114]⟩, 0, 0⟩]) (sh j 2) rfl HR7.out rfl HM7.out HX7.out (by omega) HS7.out.big ?_; intro A8 c8 w8 ho8 hg8; have HR8 := zh ho8; have HS8 := zh (HS7.out.grown HR7.out hg8); clear ho8 hg8)
 go_ret
 exact rp_of (own_mono HR8.out HS8.out.lowB) (by rw [lna, lna, <- HM4.out, <- HM7.out]; rfl) HS8.out.bel (by rw [List.append_assoc]; rfl)
theorem rb31 (N : Nat) (hE : AtR N) (hB : BlockR N) (k j : Tr) (hk : Rt 0 k ∧ k.flat.length <= N) (hj : Rt 0 j ∧ j.flat.length <= N) (l : List Tw) (A : Option Addr) (c i : Nat) (r : List Tw) (w : World) (h : Twg w l A i r ⟨31, 2, 0, bs []⟩ [k, j]) :
 Calls prog 100 #[.slice A l.length c, .int .i64 (i : Nat)] w (RP w (bareS ⟨31, 2, 0, bs []⟩ (shs [k, j]))) := by
 have HT := zh h
 obtain ⟨ha1, hi, ha2, b, off, rfl, hbl, hrg⟩ := h.at_
 have HRG : Hid (w.rangeAt b (off + i * 4) [.int .u8 31, .int .i64 2, .int .i64 0, .string (bs [])]) := zh (hrg w (Below.refl _ _))
 have HKD := zh (fun W hW => h.kids c 2 rfl W hW)
 have HM := zh mark31
 obtain ⟨z0, hz0⟩ : ∃ z, z = i + 1 + (flats ([k, j].take 0)).length := ⟨_, rfl⟩
 have HZ0 := zh hz0
 have hz90 : z0 <= 100000 := by rw [hz0]; exact h.pos (j := 0) (k := k) rfl
 have HC0 := zh (fun W hW => h.kid hE (j := 0) (k := k) rfl hk c 2 (by omega) W hW)
 rw [<- hz0] at HC0
 have HF0 : Hid ((sh k 2).length <= 900000) := zh (Nat.le_trans (h.few (k := k) (by simp) ((few_any hk.1).1 rfl 2 (by omega))) (by omega))
 clear hz0
 obtain ⟨z1, hz1⟩ : ∃ z, z = i + 1 + (flats ([k, j].take 1)).length := ⟨_, rfl⟩
 have HZ1 := zh hz1
 have hz91 : z1 <= 100000 := by rw [hz1]; exact h.pos (j := 1) (k := j) rfl
 have HC1 := zh (fun W hW => h.kid hE (j := 1) (k := j) rfl hj c 3 (by omega) W hW)
 rw [<- hz1] at HC1
 have HF1 : Hid ((sh j 3).length <= 900000) := zh (Nat.le_trans (h.few (k := j) (by simp) ((few_any hj.1).1 rfl 3 (by omega))) (by omega))
 clear hz1
 obtain ⟨q, hq⟩ := ex l.length
 have HQ := zh hq
 have hq9 : q <= 100000 := by have := h.len; omega
 rw [<- hq] at hi |-
 have a0 : (0 : Int) <= (i : Int) := by omega
 have a1 : (i : Int) < (q : Int) := by omega
 have HB0 := zh (Blk.new w 42 #[.int .u8 0, .int .i64 0, .int .i64 0, .string ⟨#[]⟩])
 have HWB := zh ((Below.refl w.heap.size w).alloc (nlr _) (.cells #[.int .u8 31, .int .i64 2, .int .i64 0, .string (bs [])] 42))
 have HWA := zh (Blk.new w 42 #[.int .u8 31, .int .i64 2, .int .i64 0, .string (bs [])])
 rw [<- HQ.out] at HKD HC0 HC1
 clear h hrg hE hB hq hbl ha1 ha2
 go_in
 go_upto_region 2 with (first | (refine wpList_load_mid rfl 42 (.tmp 17) rfl b (off + i * 4) rfl [.int .u8 31, .int .i64 2, .int .i64 0, .string (bs [])] (.struct _) HRG.out underlying42 rfl (by kernel_rfl) ?_) | (refine wpList_store_row rfl 42 (.tmp 5) (.tmp 18) rfl w.heap.size #[.int .u8 31, .int .i64 2, .int .i64 0, .string (bs [])] rfl rfl 42 #[.int .u8 0, .int .i64 0, .int .i64 0, .string ⟨#[]⟩] HB0.out (by kernel_rfl) rfl (by kernel_rfl) ?_; rw [World.setRow_alloc_new]) | fail)
 clear HB0
 obtain ⟨g, hg⟩ := ex w.heap.size
 rw [<- hg] at HWA |-
 generalize w.alloc _ = wa at *
 have HG := zh hg
 clear hg
 go_wp2_with fail
 refine (HKD.out wa HWB.out).mono ?_
 rintro e w2 ⟨K, cK, rfl, hcK, hK, hKb, hb2⟩
 obtain ⟨B, hBw⟩ := ex w2.heap.size
 have HS : Hid (Bst w w2 B g ⟨31, 2, 0, bs []⟩ K [k, j] i) := zh (Bst.new (w2' := w2) (HWB.out.trans (hb2.mono HWB.out.size)) ((hb2.block _ HWA.out.lt).trans HWA.out) hK (by rw [HG.out]; exact nlr _) hBw)
 have hg2 : g < w2.heap.size := HS.out.blk.lt
 have c0 : w2.cell? ⟨g, 0, none⟩ = some (.int .u8 31) := HS.out.blk.cell 0
 have c2 : w2.cell? ⟨g, 2, none⟩ = some (.int .i64 (0)) := HS.out.blk.cell 2
 have c3 : w2.cell? ⟨g, 3, none⟩ = some (.string (bs [])) := HS.out.blk.cell 3
 have HKB := zh (ai hKb hcK)
 clear hK hKb hb2 hcK hBw
 obtain ⟨kb, ko, rfl⟩ := HS.out.place (by simp)
 have kk00 : w2.cell? ⟨kb, ko, none⟩ = some (.int .i64 (z0 : Nat)) := HS.out.kcell (j := 0) rfl HZ0.out
 go_wp2_with fail
 refine (rwidth31 _).mono ?_
 rintro e w3 ⟨rfl, hw⟩
 rw [hw]
 clear hw w3
 go_wp2_with fail
 refine (HC0.out w2 HS.out.bel).mono ?_
 rintro e w4 ⟨A4, c4, rfl, ho4, hb4⟩
 obtain ⟨m4, hm4⟩ : ∃ z, z = (sh k 2).length := ⟨_, rfl⟩
 have hm94 : m4 <= 900000 := by rw [hm4]; exact HF0.out
 rw [<- hm4] at ho4 |-
 have HM4 := zh hm4
 have HS4 := zh (HS.out.below hb4)
 have HR4 := zh (own_mono ho4 HS.out.big)
 clear ho4 hb4 hm4
 have k40 := HS4.out.blk.cell 0
 go_wp2_with fail
 refine (HM.out w4).mono ?_
 rintro e w5 ⟨rfl, hb5⟩
 have HS5 := zh (HS4.out.below hb5)
 have HR5 := zh (own_below HR4.out hb5)
 clear hb5
 have HX6 : Hid ((w5.alloc (.cells #[.int .u8 1, .string (⟨#[97, 110, 100]⟩), .int .i64 (0), .int .i64 0] 35)).ownsRow B 35 4 (.slice A4 (m4) c4) (m4) (rowOf zcell (sh k 2)) ∧ RdZ (w5.alloc (.cells #[.int .u8 1, .string (⟨#[97, 110, 100]⟩), .int .i64 (0), .int .i64 0] 35)) (some ⟨w5.heap.size, 0, none⟩) [⟨1, ⟨#[97, 110, 100]⟩, 0, 0⟩]) := zh ⟨HR5.out.alloc _, tok_read 1 (⟨#[97, 110, 100]⟩) (0)⟩
 have HA6 := zh (HS5.out.alloc (.cells #[.int .u8 1, .string (⟨#[97, 110, 100]⟩), .int .i64 (0), .int .i64 0] 35))
 go_wp2_with (at_builtin; refine wpList_app_z rfl (.tmp 180) (.tmp 184) rfl B (m4) c4 1 1 A4 (some ⟨w5.heap.size, 0, none⟩) (sh k 2) [⟨1, ⟨#[97, 110, 100]⟩, 0, 0⟩] rfl HX6.out.1 rfl rfl HX6.out.2 (by omega) HA6.out.big ?_; intro A6 c6 w6 ho6 hg6; have HR6 := zh ho6; have HS6 := zh (HA6.out.grown HX6.out.1 hg6); clear ho6 hg6; have kk61 : w6.cell? ⟨kb, ko + 1, none⟩ = some (.int .i64 (z1 : Nat)) := HS6.out.kcell (j := 1) rfl HZ1.out)
 refine (HC1.out w6 HS6.out.bel).mono ?_
 rintro e w7 ⟨A7, c7, rfl, ho7, hb7⟩
 obtain ⟨m7, hm7⟩ : ∃ z, z = (sh j 3).length := ⟨_, rfl⟩
 have hm97 : m7 <= 900000 := by rw [hm7]; exact HF1.out
 rw [<- hm7] at ho7 |-
 have HM7 := zh hm7
 have HS7 := zh (HS6.out.below hb7)
 have HR7 := zh (own_below HR6.out hb7)
 have HX7 := zh (rdz_ow ho7 HM7.out)
 clear ho7 hb7 hm7
 go_wp2_with (at_builtin; refine wpList_app_z rfl (.tmp 186) (.tmp 193) rfl B (m4 + 1) c6 m7 c7 A6 A7 (sh k 2 ++ [⟨1, ⟨#[97, 110, 100]⟩, 0, 0⟩]) (sh j 3) rfl HR7.out rfl HM7.out HX7.out (by omega) HS7.out.big ?_; intro A8 c8 w8 ho8 hg8; have HR8 := zh ho8; have HS8 := zh (HS7.out.grown HR7.out hg8); clear ho8 hg8)
 go_ret
 exact rp_of (own_mono HR8.out HS8.out.lowB) (by rw [lna, lna, <- HM4.out, <- HM7.out]; rfl) HS8.out.bel (by rw [List.append_assoc]; rfl)
theorem rb36 (N : Nat) (hE : AtR N) (hB : BlockR N) (k j : Tr) (hk : Rt 0 k ∧ k.flat.length <= N) (hj : Rt 0 j ∧ j.flat.length <= N) (l : List Tw) (A : Option Addr) (c i : Nat) (r : List Tw) (w : World) (h : Twg w l A i r ⟨36, 2, 0, bs []⟩ [k, j]) :
 Calls prog 100 #[.slice A l.length c, .int .i64 (i : Nat)] w (RP w (bareS ⟨36, 2, 0, bs []⟩ (shs [k, j]))) := by
 have HT := zh h
 obtain ⟨ha1, hi, ha2, b, off, rfl, hbl, hrg⟩ := h.at_
 have HRG : Hid (w.rangeAt b (off + i * 4) [.int .u8 36, .int .i64 2, .int .i64 0, .string (bs [])]) := zh (hrg w (Below.refl _ _))
 have HKD := zh (fun W hW => h.kids c 2 rfl W hW)
 have HM := zh mark36
 obtain ⟨z0, hz0⟩ : ∃ z, z = i + 1 + (flats ([k, j].take 0)).length := ⟨_, rfl⟩
 have HZ0 := zh hz0
 have hz90 : z0 <= 100000 := by rw [hz0]; exact h.pos (j := 0) (k := k) rfl
 have HC0 := zh (fun W hW => h.kid hE (j := 0) (k := k) rfl hk c 5 (by omega) W hW)
 rw [<- hz0] at HC0
 have HF0 : Hid ((sh k 5).length <= 900000) := zh (Nat.le_trans (h.few (k := k) (by simp) ((few_any hk.1).1 rfl 5 (by omega))) (by omega))
 clear hz0
 obtain ⟨z1, hz1⟩ : ∃ z, z = i + 1 + (flats ([k, j].take 1)).length := ⟨_, rfl⟩
 have HZ1 := zh hz1
 have hz91 : z1 <= 100000 := by rw [hz1]; exact h.pos (j := 1) (k := j) rfl
 have HC1 := zh (fun W hW => h.kid hE (j := 1) (k := j) rfl hj c 6 (by omega) W hW)
 rw [<- hz1] at HC1
 have HF1 : Hid ((sh j 6).length <= 900000) := zh (Nat.le_trans (h.few (k := j) (by simp) ((few_any hj.1).1 rfl 6 (by omega))) (by omega))
 clear hz1
 obtain ⟨q, hq⟩ := ex l.length
 have HQ := zh hq
 have hq9 : q <= 100000 := by have := h.len; omega
 rw [<- hq] at hi |-
 have a0 : (0 : Int) <= (i : Int) := by omega
 have a1 : (i : Int) < (q : Int) := by omega
 have HB0 := zh (Blk.new w 42 #[.int .u8 0, .int .i64 0, .int .i64 0, .string ⟨#[]⟩])
 have HWB := zh ((Below.refl w.heap.size w).alloc (nlr _) (.cells #[.int .u8 36, .int .i64 2, .int .i64 0, .string (bs [])] 42))
 have HWA := zh (Blk.new w 42 #[.int .u8 36, .int .i64 2, .int .i64 0, .string (bs [])])
 rw [<- HQ.out] at HKD HC0 HC1
 clear h hrg hE hB hq hbl ha1 ha2
 go_in
 go_upto_region 2 with (first | (refine wpList_load_mid rfl 42 (.tmp 17) rfl b (off + i * 4) rfl [.int .u8 36, .int .i64 2, .int .i64 0, .string (bs [])] (.struct _) HRG.out underlying42 rfl (by kernel_rfl) ?_) | (refine wpList_store_row rfl 42 (.tmp 5) (.tmp 18) rfl w.heap.size #[.int .u8 36, .int .i64 2, .int .i64 0, .string (bs [])] rfl rfl 42 #[.int .u8 0, .int .i64 0, .int .i64 0, .string ⟨#[]⟩] HB0.out (by kernel_rfl) rfl (by kernel_rfl) ?_; rw [World.setRow_alloc_new]) | fail)
 clear HB0
 obtain ⟨g, hg⟩ := ex w.heap.size
 rw [<- hg] at HWA |-
 generalize w.alloc _ = wa at *
 have HG := zh hg
 clear hg
 go_wp2_with fail
 refine (HKD.out wa HWB.out).mono ?_
 rintro e w2 ⟨K, cK, rfl, hcK, hK, hKb, hb2⟩
 obtain ⟨B, hBw⟩ := ex w2.heap.size
 have HS : Hid (Bst w w2 B g ⟨36, 2, 0, bs []⟩ K [k, j] i) := zh (Bst.new (w2' := w2) (HWB.out.trans (hb2.mono HWB.out.size)) ((hb2.block _ HWA.out.lt).trans HWA.out) hK (by rw [HG.out]; exact nlr _) hBw)
 have hg2 : g < w2.heap.size := HS.out.blk.lt
 have c0 : w2.cell? ⟨g, 0, none⟩ = some (.int .u8 36) := HS.out.blk.cell 0
 have c2 : w2.cell? ⟨g, 2, none⟩ = some (.int .i64 (0)) := HS.out.blk.cell 2
 have c3 : w2.cell? ⟨g, 3, none⟩ = some (.string (bs [])) := HS.out.blk.cell 3
 have HKB := zh (ai hKb hcK)
 clear hK hKb hb2 hcK hBw
 obtain ⟨kb, ko, rfl⟩ := HS.out.place (by simp)
 have kk00 : w2.cell? ⟨kb, ko, none⟩ = some (.int .i64 (z0 : Nat)) := HS.out.kcell (j := 0) rfl HZ0.out
 go_wp2_with fail
 refine (rwidth36 _).mono ?_
 rintro e w3 ⟨rfl, hw⟩
 rw [hw]
 clear hw w3
 go_wp2_with fail
 refine (HC0.out w2 HS.out.bel).mono ?_
 rintro e w4 ⟨A4, c4, rfl, ho4, hb4⟩
 obtain ⟨m4, hm4⟩ : ∃ z, z = (sh k 5).length := ⟨_, rfl⟩
 have hm94 : m4 <= 900000 := by rw [hm4]; exact HF0.out
 rw [<- hm4] at ho4 |-
 have HM4 := zh hm4
 have HS4 := zh (HS.out.below hb4)
 have HR4 := zh (own_mono ho4 HS.out.big)
 clear ho4 hb4 hm4
 have k40 := HS4.out.blk.cell 0
 go_wp2_with fail
 refine (HM.out w4).mono ?_
 rintro e w5 ⟨rfl, hb5⟩
 have HS5 := zh (HS4.out.below hb5)
 have HR5 := zh (own_below HR4.out hb5)
 clear hb5
 have HX6 : Hid ((w5.alloc (.cells #[.int .u8 4, .string (⟨#[43]⟩), .int .i64 (0), .int .i64 0] 35)).ownsRow B 35 4 (.slice A4 (m4) c4) (m4) (rowOf zcell (sh k 5)) ∧ RdZ (w5.alloc (.cells #[.int .u8 4, .string (⟨#[43]⟩), .int .i64 (0), .int .i64 0] 35)) (some ⟨w5.heap.size, 0, none⟩) [⟨4, ⟨#[43]⟩, 0, 0⟩]) := zh ⟨HR5.out.alloc _, tok_read 4 (⟨#[43]⟩) (0)⟩
 have HA6 := zh (HS5.out.alloc (.cells #[.int .u8 4, .string (⟨#[43]⟩), .int .i64 (0), .int .i64 0] 35))
 go_wp2_with (at_builtin; refine wpList_app_z rfl (.tmp 180) (.tmp 184) rfl B (m4) c4 1 1 A4 (some ⟨w5.heap.size, 0, none⟩) (sh k 5) [⟨4, ⟨#[43]⟩, 0, 0⟩] rfl HX6.out.1 rfl rfl HX6.out.2 (by omega) HA6.out.big ?_; intro A6 c6 w6 ho6 hg6; have HR6 := zh ho6; have HS6 := zh (HA6.out.grown HX6.out.1 hg6); clear ho6 hg6; have kk61 : w6.cell? ⟨kb, ko + 1, none⟩ = some (.int .i64 (z1 : Nat)) := HS6.out.kcell (j := 1) rfl HZ1.out)
 refine (HC1.out w6 HS6.out.bel).mono ?_
 rintro e w7 ⟨A7, c7, rfl, ho7, hb7⟩
 obtain ⟨m7, hm7⟩ : ∃ z, z = (sh j 6).length := ⟨_, rfl⟩
 have hm97 : m7 <= 900000 := by rw [hm7]; exact HF1.out
 rw [<- hm7] at ho7 |-
 have HM7 := zh hm7
 have HS7 := zh (HS6.out.below hb7)
 have HR7 := zh (own_below HR6.out hb7)
 have HX7 := zh (rdz_ow ho7 HM7.out)
 clear ho7 hb7 hm7
 go_wp2_with (at_builtin; refine wpList_app_z rfl (.tmp 186) (.tmp 193) rfl B (m4 + 1) c6 m7 c7 A6 A7 (sh k 5 ++ [⟨4, ⟨#[43]⟩, 0, 0⟩]) (sh j 6) rfl HR7.out rfl HM7.out HX7.out (by omega) HS7.out.big ?_; intro A8 c8 w8 ho8 hg8; have HR8 := zh ho8; have HS8 := zh (HS7.out.grown HR7.out hg8); clear ho8 hg8)
 go_ret
 exact rp_of (own_mono HR8.out HS8.out.lowB) (by rw [lna, lna, <- HM4.out, <- HM7.out]; rfl) HS8.out.bel (by rw [List.append_assoc]; rfl)
theorem rb37 (N : Nat) (hE : AtR N) (hB : BlockR N) (k j : Tr) (hk : Rt 0 k ∧ k.flat.length <= N) (hj : Rt 0 j ∧ j.flat.length <= N) (l : List Tw) (A : Option Addr) (c i : Nat) (r : List Tw) (w : World) (h : Twg w l A i r ⟨37, 2, 0, bs []⟩ [k, j]) :
 Calls prog 100 #[.slice A l.length c, .int .i64 (i : Nat)] w (RP w (bareS ⟨37, 2, 0, bs []⟩ (shs [k, j]))) := by
 have HT := zh h
 obtain ⟨ha1, hi, ha2, b, off, rfl, hbl, hrg⟩ := h.at_
 have HRG : Hid (w.rangeAt b (off + i * 4) [.int .u8 37, .int .i64 2, .int .i64 0, .string (bs [])]) := zh (hrg w (Below.refl _ _))
 have HKD := zh (fun W hW => h.kids c 2 rfl W hW)
 have HM := zh mark37
 obtain ⟨z0, hz0⟩ : ∃ z, z = i + 1 + (flats ([k, j].take 0)).length := ⟨_, rfl⟩
 have HZ0 := zh hz0
 have hz90 : z0 <= 100000 := by rw [hz0]; exact h.pos (j := 0) (k := k) rfl
 have HC0 := zh (fun W hW => h.kid hE (j := 0) (k := k) rfl hk c 5 (by omega) W hW)
 rw [<- hz0] at HC0
 have HF0 : Hid ((sh k 5).length <= 900000) := zh (Nat.le_trans (h.few (k := k) (by simp) ((few_any hk.1).1 rfl 5 (by omega))) (by omega))
 clear hz0
 obtain ⟨z1, hz1⟩ : ∃ z, z = i + 1 + (flats ([k, j].take 1)).length := ⟨_, rfl⟩
 have HZ1 := zh hz1
 have hz91 : z1 <= 100000 := by rw [hz1]; exact h.pos (j := 1) (k := j) rfl
 have HC1 := zh (fun W hW => h.kid hE (j := 1) (k := j) rfl hj c 6 (by omega) W hW)
 rw [<- hz1] at HC1
 have HF1 : Hid ((sh j 6).length <= 900000) := zh (Nat.le_trans (h.few (k := j) (by simp) ((few_any hj.1).1 rfl 6 (by omega))) (by omega))
 clear hz1
 obtain ⟨q, hq⟩ := ex l.length
 have HQ := zh hq
 have hq9 : q <= 100000 := by have := h.len; omega
 rw [<- hq] at hi |-
 have a0 : (0 : Int) <= (i : Int) := by omega
 have a1 : (i : Int) < (q : Int) := by omega
 have HB0 := zh (Blk.new w 42 #[.int .u8 0, .int .i64 0, .int .i64 0, .string ⟨#[]⟩])
 have HWB := zh ((Below.refl w.heap.size w).alloc (nlr _) (.cells #[.int .u8 37, .int .i64 2, .int .i64 0, .string (bs [])] 42))
 have HWA := zh (Blk.new w 42 #[.int .u8 37, .int .i64 2, .int .i64 0, .string (bs [])])
 rw [<- HQ.out] at HKD HC0 HC1
 clear h hrg hE hB hq hbl ha1 ha2
 go_in
 go_upto_region 2 with (first | (refine wpList_load_mid rfl 42 (.tmp 17) rfl b (off + i * 4) rfl [.int .u8 37, .int .i64 2, .int .i64 0, .string (bs [])] (.struct _) HRG.out underlying42 rfl (by kernel_rfl) ?_) | (refine wpList_store_row rfl 42 (.tmp 5) (.tmp 18) rfl w.heap.size #[.int .u8 37, .int .i64 2, .int .i64 0, .string (bs [])] rfl rfl 42 #[.int .u8 0, .int .i64 0, .int .i64 0, .string ⟨#[]⟩] HB0.out (by kernel_rfl) rfl (by kernel_rfl) ?_; rw [World.setRow_alloc_new]) | fail)
 clear HB0
 obtain ⟨g, hg⟩ := ex w.heap.size
 rw [<- hg] at HWA |-
 generalize w.alloc _ = wa at *
 have HG := zh hg
 clear hg
 go_wp2_with fail
 refine (HKD.out wa HWB.out).mono ?_
 rintro e w2 ⟨K, cK, rfl, hcK, hK, hKb, hb2⟩
 obtain ⟨B, hBw⟩ := ex w2.heap.size
 have HS : Hid (Bst w w2 B g ⟨37, 2, 0, bs []⟩ K [k, j] i) := zh (Bst.new (w2' := w2) (HWB.out.trans (hb2.mono HWB.out.size)) ((hb2.block _ HWA.out.lt).trans HWA.out) hK (by rw [HG.out]; exact nlr _) hBw)
 have hg2 : g < w2.heap.size := HS.out.blk.lt
 have c0 : w2.cell? ⟨g, 0, none⟩ = some (.int .u8 37) := HS.out.blk.cell 0
 have c2 : w2.cell? ⟨g, 2, none⟩ = some (.int .i64 (0)) := HS.out.blk.cell 2
 have c3 : w2.cell? ⟨g, 3, none⟩ = some (.string (bs [])) := HS.out.blk.cell 3
 have HKB := zh (ai hKb hcK)
 clear hK hKb hb2 hcK hBw
 obtain ⟨kb, ko, rfl⟩ := HS.out.place (by simp)
 have kk00 : w2.cell? ⟨kb, ko, none⟩ = some (.int .i64 (z0 : Nat)) := HS.out.kcell (j := 0) rfl HZ0.out
 go_wp2_with fail
 refine (rwidth37 _).mono ?_
 rintro e w3 ⟨rfl, hw⟩
 rw [hw]
 clear hw w3
 go_wp2_with fail
 refine (HC0.out w2 HS.out.bel).mono ?_
 rintro e w4 ⟨A4, c4, rfl, ho4, hb4⟩
 obtain ⟨m4, hm4⟩ : ∃ z, z = (sh k 5).length := ⟨_, rfl⟩
 have hm94 : m4 <= 900000 := by rw [hm4]; exact HF0.out
 rw [<- hm4] at ho4 |-
 have HM4 := zh hm4
 have HS4 := zh (HS.out.below hb4)
 have HR4 := zh (own_mono ho4 HS.out.big)
 clear ho4 hb4 hm4
 have k40 := HS4.out.blk.cell 0
 go_wp2_with fail
 refine (HM.out w4).mono ?_
 rintro e w5 ⟨rfl, hb5⟩
 have HS5 := zh (HS4.out.below hb5)
 have HR5 := zh (own_below HR4.out hb5)
 clear hb5
 have HX6 : Hid ((w5.alloc (.cells #[.int .u8 4, .string (⟨#[45]⟩), .int .i64 (0), .int .i64 0] 35)).ownsRow B 35 4 (.slice A4 (m4) c4) (m4) (rowOf zcell (sh k 5)) ∧ RdZ (w5.alloc (.cells #[.int .u8 4, .string (⟨#[45]⟩), .int .i64 (0), .int .i64 0] 35)) (some ⟨w5.heap.size, 0, none⟩) [⟨4, ⟨#[45]⟩, 0, 0⟩]) := zh ⟨HR5.out.alloc _, tok_read 4 (⟨#[45]⟩) (0)⟩
 have HA6 := zh (HS5.out.alloc (.cells #[.int .u8 4, .string (⟨#[45]⟩), .int .i64 (0), .int .i64 0] 35))
 go_wp2_with (at_builtin; refine wpList_app_z rfl (.tmp 180) (.tmp 184) rfl B (m4) c4 1 1 A4 (some ⟨w5.heap.size, 0, none⟩) (sh k 5) [⟨4, ⟨#[45]⟩, 0, 0⟩] rfl HX6.out.1 rfl rfl HX6.out.2 (by omega) HA6.out.big ?_; intro A6 c6 w6 ho6 hg6; have HR6 := zh ho6; have HS6 := zh (HA6.out.grown HX6.out.1 hg6); clear ho6 hg6; have kk61 : w6.cell? ⟨kb, ko + 1, none⟩ = some (.int .i64 (z1 : Nat)) := HS6.out.kcell (j := 1) rfl HZ1.out)
 refine (HC1.out w6 HS6.out.bel).mono ?_
 rintro e w7 ⟨A7, c7, rfl, ho7, hb7⟩
 obtain ⟨m7, hm7⟩ : ∃ z, z = (sh j 6).length := ⟨_, rfl⟩
 have hm97 : m7 <= 900000 := by rw [hm7]; exact HF1.out
 rw [<- hm7] at ho7 |-
 have HM7 := zh hm7
 have HS7 := zh (HS6.out.below hb7)
 have HR7 := zh (own_below HR6.out hb7)
 have HX7 := zh (rdz_ow ho7 HM7.out)
 clear ho7 hb7 hm7
 go_wp2_with (at_builtin; refine wpList_app_z rfl (.tmp 186) (.tmp 193) rfl B (m4 + 1) c6 m7 c7 A6 A7 (sh k 5 ++ [⟨4, ⟨#[45]⟩, 0, 0⟩]) (sh j 6) rfl HR7.out rfl HM7.out HX7.out (by omega) HS7.out.big ?_; intro A8 c8 w8 ho8 hg8; have HR8 := zh ho8; have HS8 := zh (HS7.out.grown HR7.out hg8); clear ho8 hg8)
 go_ret
 exact rp_of (own_mono HR8.out HS8.out.lowB) (by rw [lna, lna, <- HM4.out, <- HM7.out]; rfl) HS8.out.bel (by rw [List.append_assoc]; rfl)
theorem rb38 (N : Nat) (hE : AtR N) (hB : BlockR N) (k j : Tr) (hk : Rt 0 k ∧ k.flat.length <= N) (hj : Rt 0 j ∧ j.flat.length <= N) (l : List Tw) (A : Option Addr) (c i : Nat) (r : List Tw) (w : World) (h : Twg w l A i r ⟨38, 2, 0, bs []⟩ [k, j]) :
 Calls prog 100 #[.slice A l.length c, .int .i64 (i : Nat)] w (RP w (bareS ⟨38, 2, 0, bs []⟩ (shs [k, j]))) := by
 have HT := zh h
 obtain ⟨ha1, hi, ha2, b, off, rfl, hbl, hrg⟩ := h.at_
 have HRG : Hid (w.rangeAt b (off + i * 4) [.int .u8 38, .int .i64 2, .int .i64 0, .string (bs [])]) := zh (hrg w (Below.refl _ _))
 have HKD := zh (fun W hW => h.kids c 2 rfl W hW)
 have HM := zh mark38
 obtain ⟨z0, hz0⟩ : ∃ z, z = i + 1 + (flats ([k, j].take 0)).length := ⟨_, rfl⟩
 have HZ0 := zh hz0
 have hz90 : z0 <= 100000 := by rw [hz0]; exact h.pos (j := 0) (k := k) rfl
 have HC0 := zh (fun W hW => h.kid hE (j := 0) (k := k) rfl hk c 6 (by omega) W hW)
 rw [<- hz0] at HC0
 have HF0 : Hid ((sh k 6).length <= 900000) := zh (Nat.le_trans (h.few (k := k) (by simp) ((few_any hk.1).1 rfl 6 (by omega))) (by omega))
 clear hz0
 obtain ⟨z1, hz1⟩ : ∃ z, z = i + 1 + (flats ([k, j].take 1)).length := ⟨_, rfl⟩
 have HZ1 := zh hz1
 have hz91 : z1 <= 100000 := by rw [hz1]; exact h.pos (j := 1) (k := j) rfl
 have HC1 := zh (fun W hW => h.kid hE (j := 1) (k := j) rfl hj c 7 (by omega) W hW)
 rw [<- hz1] at HC1
 have HF1 : Hid ((sh j 7).length <= 900000) := zh (Nat.le_trans (h.few (k := j) (by simp) ((few_any hj.1).1 rfl 7 (by omega))) (by omega))
 clear hz1
 obtain ⟨q, hq⟩ := ex l.length
 have HQ := zh hq
 have hq9 : q <= 100000 := by have := h.len; omega
 rw [<- hq] at hi |-
 have a0 : (0 : Int) <= (i : Int) := by omega
 have a1 : (i : Int) < (q : Int) := by omega
 have HB0 := zh (Blk.new w 42 #[.int .u8 0, .int .i64 0, .int .i64 0, .string ⟨#[]⟩])
 have HWB := zh ((Below.refl w.heap.size w).alloc (nlr _) (.cells #[.int .u8 38, .int .i64 2, .int .i64 0, .string (bs [])] 42))
 have HWA := zh (Blk.new w 42 #[.int .u8 38, .int .i64 2, .int .i64 0, .string (bs [])])
 rw [<- HQ.out] at HKD HC0 HC1
 clear h hrg hE hB hq hbl ha1 ha2
 go_in
 go_upto_region 2 with (first | (refine wpList_load_mid rfl 42 (.tmp 17) rfl b (off + i * 4) rfl [.int .u8 38, .int .i64 2, .int .i64 0, .string (bs [])] (.struct _) HRG.out underlying42 rfl (by kernel_rfl) ?_) | (refine wpList_store_row rfl 42 (.tmp 5) (.tmp 18) rfl w.heap.size #[.int .u8 38, .int .i64 2, .int .i64 0, .string (bs [])] rfl rfl 42 #[.int .u8 0, .int .i64 0, .int .i64 0, .string ⟨#[]⟩] HB0.out (by kernel_rfl) rfl (by kernel_rfl) ?_; rw [World.setRow_alloc_new]) | fail)
 clear HB0
 obtain ⟨g, hg⟩ := ex w.heap.size
 rw [<- hg] at HWA |-
 generalize w.alloc _ = wa at *
 have HG := zh hg
 clear hg
 go_wp2_with fail
 refine (HKD.out wa HWB.out).mono ?_
 rintro e w2 ⟨K, cK, rfl, hcK, hK, hKb, hb2⟩
 obtain ⟨B, hBw⟩ := ex w2.heap.size
 have HS : Hid (Bst w w2 B g ⟨38, 2, 0, bs []⟩ K [k, j] i) := zh (Bst.new (w2' := w2) (HWB.out.trans (hb2.mono HWB.out.size)) ((hb2.block _ HWA.out.lt).trans HWA.out) hK (by rw [HG.out]; exact nlr _) hBw)
 have hg2 : g < w2.heap.size := HS.out.blk.lt
 have c0 : w2.cell? ⟨g, 0, none⟩ = some (.int .u8 38) := HS.out.blk.cell 0
 have c2 : w2.cell? ⟨g, 2, none⟩ = some (.int .i64 (0)) := HS.out.blk.cell 2
 have c3 : w2.cell? ⟨g, 3, none⟩ = some (.string (bs [])) := HS.out.blk.cell 3
 have HKB := zh (ai hKb hcK)
 clear hK hKb hb2 hcK hBw
 obtain ⟨kb, ko, rfl⟩ := HS.out.place (by simp)
 have kk00 : w2.cell? ⟨kb, ko, none⟩ = some (.int .i64 (z0 : Nat)) := HS.out.kcell (j := 0) rfl HZ0.out
 go_wp2_with fail
 refine (rwidth38 _).mono ?_
 rintro e w3 ⟨rfl, hw⟩
 rw [hw]
 clear hw w3
 go_wp2_with fail
 refine (HC0.out w2 HS.out.bel).mono ?_
 rintro e w4 ⟨A4, c4, rfl, ho4, hb4⟩
 obtain ⟨m4, hm4⟩ : ∃ z, z = (sh k 6).length := ⟨_, rfl⟩
 have hm94 : m4 <= 900000 := by rw [hm4]; exact HF0.out
 rw [<- hm4] at ho4 |-
 have HM4 := zh hm4
 have HS4 := zh (HS.out.below hb4)
 have HR4 := zh (own_mono ho4 HS.out.big)
 clear ho4 hb4 hm4
 have k40 := HS4.out.blk.cell 0
 go_wp2_with fail
 refine (HM.out w4).mono ?_
 rintro e w5 ⟨rfl, hb5⟩
 have HS5 := zh (HS4.out.below hb5)
 have HR5 := zh (own_below HR4.out hb5)
 clear hb5
 have HX6 : Hid ((w5.alloc (.cells #[.int .u8 4, .string (⟨#[42]⟩), .int .i64 (0), .int .i64 0] 35)).ownsRow B 35 4 (.slice A4 (m4) c4) (m4) (rowOf zcell (sh k 6)) ∧ RdZ (w5.alloc (.cells #[.int .u8 4, .string (⟨#[42]⟩), .int .i64 (0), .int .i64 0] 35)) (some ⟨w5.heap.size, 0, none⟩) [⟨4, ⟨#[42]⟩, 0, 0⟩]) := zh ⟨HR5.out.alloc _, tok_read 4 (⟨#[42]⟩) (0)⟩
 have HA6 := zh (HS5.out.alloc (.cells #[.int .u8 4, .string (⟨#[42]⟩), .int .i64 (0), .int .i64 0] 35))
 go_wp2_with (at_builtin; refine wpList_app_z rfl (.tmp 180) (.tmp 184) rfl B (m4) c4 1 1 A4 (some ⟨w5.heap.size, 0, none⟩) (sh k 6) [⟨4, ⟨#[42]⟩, 0, 0⟩] rfl HX6.out.1 rfl rfl HX6.out.2 (by omega) HA6.out.big ?_; intro A6 c6 w6 ho6 hg6; have HR6 := zh ho6; have HS6 := zh (HA6.out.grown HX6.out.1 hg6); clear ho6 hg6; have kk61 : w6.cell? ⟨kb, ko + 1, none⟩ = some (.int .i64 (z1 : Nat)) := HS6.out.kcell (j := 1) rfl HZ1.out)
 refine (HC1.out w6 HS6.out.bel).mono ?_
 rintro e w7 ⟨A7, c7, rfl, ho7, hb7⟩
 obtain ⟨m7, hm7⟩ : ∃ z, z = (sh j 7).length := ⟨_, rfl⟩
 have hm97 : m7 <= 900000 := by rw [hm7]; exact HF1.out
 rw [<- hm7] at ho7 |-
 have HM7 := zh hm7
 have HS7 := zh (HS6.out.below hb7)
 have HR7 := zh (own_below HR6.out hb7)
 have HX7 := zh (rdz_ow ho7 HM7.out)
 clear ho7 hb7 hm7
 go_wp2_with (at_builtin; refine wpList_app_z rfl (.tmp 186) (.tmp 193) rfl B (m4 + 1) c6 m7 c7 A6 A7 (sh k 6 ++ [⟨4, ⟨#[42]⟩, 0, 0⟩]) (sh j 7) rfl HR7.out rfl HM7.out HX7.out (by omega) HS7.out.big ?_; intro A8 c8 w8 ho8 hg8; have HR8 := zh ho8; have HS8 := zh (HS7.out.grown HR7.out hg8); clear ho8 hg8)
 go_ret
 exact rp_of (own_mono HR8.out HS8.out.lowB) (by rw [lna, lna, <- HM4.out, <- HM7.out]; rfl) HS8.out.bel (by rw [List.append_assoc]; rfl)
theorem rb39 (N : Nat) (hE : AtR N) (hB : BlockR N) (k j : Tr) (hk : Rt 0 k ∧ k.flat.length <= N) (hj : Rt 0 j ∧ j.flat.length <= N) (l : List Tw) (A : Option Addr) (c i : Nat) (r : List Tw) (w : World) (h : Twg w l A i r ⟨39, 2, 0, bs []⟩ [k, j]) :
 Calls prog 100 #[.slice A l.length c, .int .i64 (i : Nat)] w (RP w (bareS ⟨39, 2, 0, bs []⟩ (shs [k, j]))) := by
 have HT := zh h
 obtain ⟨ha1, hi, ha2, b, off, rfl, hbl, hrg⟩ := h.at_
 have HRG : Hid (w.rangeAt b (off + i * 4) [.int .u8 39, .int .i64 2, .int .i64 0, .string (bs [])]) := zh (hrg w (Below.refl _ _))
 have HKD := zh (fun W hW => h.kids c 2 rfl W hW)
 have HM := zh mark39
 obtain ⟨z0, hz0⟩ : ∃ z, z = i + 1 + (flats ([k, j].take 0)).length := ⟨_, rfl⟩
 have HZ0 := zh hz0
 have hz90 : z0 <= 100000 := by rw [hz0]; exact h.pos (j := 0) (k := k) rfl
 have HC0 := zh (fun W hW => h.kid hE (j := 0) (k := k) rfl hk c 6 (by omega) W hW)
 rw [<- hz0] at HC0
 have HF0 : Hid ((sh k 6).length <= 900000) := zh (Nat.le_trans (h.few (k := k) (by simp) ((few_any hk.1).1 rfl 6 (by omega))) (by omega))
 clear hz0
 obtain ⟨z1, hz1⟩ : ∃ z, z = i + 1 + (flats ([k, j].take 1)).length := ⟨_, rfl⟩
 have HZ1 := zh hz1
 have hz91 : z1 <= 100000 := by rw [hz1]; exact h.pos (j := 1) (k := j) rfl
 have HC1 := zh (fun W hW => h.kid hE (j := 1) (k := j) rfl hj c 7 (by omega) W hW)
 rw [<- hz1] at HC1
 have HF1 : Hid ((sh j 7).length <= 900000) := zh (Nat.le_trans (h.few (k := j) (by simp) ((few_any hj.1).1 rfl 7 (by omega))) (by omega))
 clear hz1
 obtain ⟨q, hq⟩ := ex l.length
 have HQ := zh hq
 have hq9 : q <= 100000 := by have := h.len; omega
 rw [<- hq] at hi |-
 have a0 : (0 : Int) <= (i : Int) := by omega
 have a1 : (i : Int) < (q : Int) := by omega
 have HB0 := zh (Blk.new w 42 #[.int .u8 0, .int .i64 0, .int .i64 0, .string ⟨#[]⟩])
 have HWB := zh ((Below.refl w.heap.size w).alloc (nlr _) (.cells #[.int .u8 39, .int .i64 2, .int .i64 0, .string (bs [])] 42))
 have HWA := zh (Blk.new w 42 #[.int .u8 39, .int .i64 2, .int .i64 0, .string (bs [])])
 rw [<- HQ.out] at HKD HC0 HC1
 clear h hrg hE hB hq hbl ha1 ha2
 go_in
 go_upto_region 2 with (first | (refine wpList_load_mid rfl 42 (.tmp 17) rfl b (off + i * 4) rfl [.int .u8 39, .int .i64 2, .int .i64 0, .string (bs [])] (.struct _) HRG.out underlying42 rfl (by kernel_rfl) ?_) | (refine wpList_store_row rfl 42 (.tmp 5) (.tmp 18) rfl w.heap.size #[.int .u8 39, .int .i64 2, .int .i64 0, .string (bs [])] rfl rfl 42 #[.int .u8 0, .int .i64 0, .int .i64 0, .string ⟨#[]⟩] HB0.out (by kernel_rfl) rfl (by kernel_rfl) ?_; rw [World.setRow_alloc_new]) | fail)
 clear HB0
 obtain ⟨g, hg⟩ := ex w.heap.size
 rw [<- hg] at HWA |-
 generalize w.alloc _ = wa at *
 have HG := zh hg
 clear hg
 go_wp2_with fail
 refine (HKD.out wa HWB.out).mono ?_
 rintro e w2 ⟨K, cK, rfl, hcK, hK, hKb, hb2⟩
 obtain ⟨B, hBw⟩ := ex w2.heap.size
 have HS : Hid (Bst w w2 B g ⟨39, 2, 0, bs []⟩ K [k, j] i) := zh (Bst.new (w2' := w2) (HWB.out.trans (hb2.mono HWB.out.size)) ((hb2.block _ HWA.out.lt).trans HWA.out) hK (by rw [HG.out]; exact nlr _) hBw)
 have hg2 : g < w2.heap.size := HS.out.blk.lt
 have c0 : w2.cell? ⟨g, 0, none⟩ = some (.int .u8 39) := HS.out.blk.cell 0
 have c2 : w2.cell? ⟨g, 2, none⟩ = some (.int .i64 (0)) := HS.out.blk.cell 2
 have c3 : w2.cell? ⟨g, 3, none⟩ = some (.string (bs [])) := HS.out.blk.cell 3
 have HKB := zh (ai hKb hcK)
 clear hK hKb hb2 hcK hBw
 obtain ⟨kb, ko, rfl⟩ := HS.out.place (by simp)
 have kk00 : w2.cell? ⟨kb, ko, none⟩ = some (.int .i64 (z0 : Nat)) := HS.out.kcell (j := 0) rfl HZ0.out
 go_wp2_with fail
 refine (rwidth39 _).mono ?_
 rintro e w3 ⟨rfl, hw⟩
 rw [hw]
 clear hw w3
 go_wp2_with fail
 refine (HC0.out w2 HS.out.bel).mono ?_
 rintro e w4 ⟨A4, c4, rfl, ho4, hb4⟩
 obtain ⟨m4, hm4⟩ : ∃ z, z = (sh k 6).length := ⟨_, rfl⟩
 have hm94 : m4 <= 900000 := by rw [hm4]; exact HF0.out
 rw [<- hm4] at ho4 |-
 have HM4 := zh hm4
 have HS4 := zh (HS.out.below hb4)
 have HR4 := zh (own_mono ho4 HS.out.big)
 clear ho4 hb4 hm4
 have k40 := HS4.out.blk.cell 0
 go_wp2_with fail
 refine (HM.out w4).mono ?_
 rintro e w5 ⟨rfl, hb5⟩
 have HS5 := zh (HS4.out.below hb5)
 have HR5 := zh (own_below HR4.out hb5)
 clear hb5
 have HX6 : Hid ((w5.alloc (.cells #[.int .u8 4, .string (⟨#[47]⟩), .int .i64 (0), .int .i64 0] 35)).ownsRow B 35 4 (.slice A4 (m4) c4) (m4) (rowOf zcell (sh k 6)) ∧ RdZ (w5.alloc (.cells #[.int .u8 4, .string (⟨#[47]⟩), .int .i64 (0), .int .i64 0] 35)) (some ⟨w5.heap.size, 0, none⟩) [⟨4, ⟨#[47]⟩, 0, 0⟩]) := zh ⟨HR5.out.alloc _, tok_read 4 (⟨#[47]⟩) (0)⟩
 have HA6 := zh (HS5.out.alloc (.cells #[.int .u8 4, .string (⟨#[47]⟩), .int .i64 (0), .int .i64 0] 35))
 go_wp2_with (at_builtin; refine wpList_app_z rfl (.tmp 180) (.tmp 184) rfl B (m4) c4 1 1 A4 (some ⟨w5.heap.size, 0, none⟩) (sh k 6) [⟨4, ⟨#[47]⟩, 0, 0⟩] rfl HX6.out.1 rfl rfl HX6.out.2 (by omega) HA6.out.big ?_; intro A6 c6 w6 ho6 hg6; have HR6 := zh ho6; have HS6 := zh (HA6.out.grown HX6.out.1 hg6); clear ho6 hg6; have kk61 : w6.cell? ⟨kb, ko + 1, none⟩ = some (.int .i64 (z1 : Nat)) := HS6.out.kcell (j := 1) rfl HZ1.out)
 refine (HC1.out w6 HS6.out.bel).mono ?_
 rintro e w7 ⟨A7, c7, rfl, ho7, hb7⟩
 obtain ⟨m7, hm7⟩ : ∃ z, z = (sh j 7).length := ⟨_, rfl⟩
 have hm97 : m7 <= 900000 := by rw [hm7]; exact HF1.out
 rw [<- hm7] at ho7 |-
 have HM7 := zh hm7
 have HS7 := zh (HS6.out.below hb7)
 have HR7 := zh (own_below HR6.out hb7)
 have HX7 := zh (rdz_ow ho7 HM7.out)
 clear ho7 hb7 hm7
 go_wp2_with (at_builtin; refine wpList_app_z rfl (.tmp 186) (.tmp 193) rfl B (m4 + 1) c6 m7 c7 A6 A7 (sh k 6 ++ [⟨4, ⟨#[47]⟩, 0, 0⟩]) (sh j 7) rfl HR7.out rfl HM7.out HX7.out (by omega) HS7.out.big ?_; intro A8 c8 w8 ho8 hg8; have HR8 := zh ho8; have HS8 := zh (HS7.out.grown HR7.out hg8); clear ho8 hg8)
 go_ret
 exact rp_of (own_mono HR8.out HS8.out.lowB) (by rw [lna, lna, <- HM4.out, <- HM7.out]; rfl) HS8.out.bel (by rw [List.append_assoc]; rfl)
theorem rb40 (N : Nat) (hE : AtR N) (hB : BlockR N) (k j : Tr) (hk : Rt 0 k ∧ k.flat.length <= N) (hj : Rt 0 j ∧ j.flat.length <= N) (l : List Tw) (A : Option Addr) (c i : Nat) (r : List Tw) (w : World) (h : Twg w l A i r ⟨40, 2, 0, bs []⟩ [k, j]) :
 Calls prog 100 #[.slice A l.length c, .int .i64 (i : Nat)] w (RP w (bareS ⟨40, 2, 0, bs []⟩ (shs [k, j]))) := by
 have HT := zh h
 obtain ⟨ha1, hi, ha2, b, off, rfl, hbl, hrg⟩ := h.at_
 have HRG : Hid (w.rangeAt b (off + i * 4) [.int .u8 40, .int .i64 2, .int .i64 0, .string (bs [])]) := zh (hrg w (Below.refl _ _))
 have HKD := zh (fun W hW => h.kids c 2 rfl W hW)
 have HM := zh mark40
 obtain ⟨z0, hz0⟩ : ∃ z, z = i + 1 + (flats ([k, j].take 0)).length := ⟨_, rfl⟩
 have HZ0 := zh hz0
 have hz90 : z0 <= 100000 := by rw [hz0]; exact h.pos (j := 0) (k := k) rfl
 have HC0 := zh (fun W hW => h.kid hE (j := 0) (k := k) rfl hk c 6 (by omega) W hW)
 rw [<- hz0] at HC0
 have HF0 : Hid ((sh k 6).length <= 900000) := zh (Nat.le_trans (h.few (k := k) (by simp) ((few_any hk.1).1 rfl 6 (by omega))) (by omega))
 clear hz0
 obtain ⟨z1, hz1⟩ : ∃ z, z = i + 1 + (flats ([k, j].take 1)).length := ⟨_, rfl⟩
 have HZ1 := zh hz1
 have hz91 : z1 <= 100000 := by rw [hz1]; exact h.pos (j := 1) (k := j) rfl
 have HC1 := zh (fun W hW => h.kid hE (j := 1) (k := j) rfl hj c 7 (by omega) W hW)
 rw [<- hz1] at HC1
 have HF1 : Hid ((sh j 7).length <= 900000) := zh (Nat.le_trans (h.few (k := j) (by simp) ((few_any hj.1).1 rfl 7 (by omega))) (by omega))
 clear hz1
 obtain ⟨q, hq⟩ := ex l.length
 have HQ := zh hq
 have hq9 : q <= 100000 := by have := h.len; omega
 rw [<- hq] at hi |-
 have a0 : (0 : Int) <= (i : Int) := by omega
 have a1 : (i : Int) < (q : Int) := by omega
 have HB0 := zh (Blk.new w 42 #[.int .u8 0, .int .i64 0, .int .i64 0, .string ⟨#[]⟩])
 have HWB := zh ((Below.refl w.heap.size w).alloc (nlr _) (.cells #[.int .u8 40, .int .i64 2, .int .i64 0, .string (bs [])] 42))
 have HWA := zh (Blk.new w 42 #[.int .u8 40, .int .i64 2, .int .i64 0, .string (bs [])])
 rw [<- HQ.out] at HKD HC0 HC1
 clear h hrg hE hB hq hbl ha1 ha2
 go_in
 go_upto_region 2 with (first | (refine wpList_load_mid rfl 42 (.tmp 17) rfl b (off + i * 4) rfl [.int .u8 40, .int .i64 2, .int .i64 0, .string (bs [])] (.struct _) HRG.out underlying42 rfl (by kernel_rfl) ?_) | (refine wpList_store_row rfl 42 (.tmp 5) (.tmp 18) rfl w.heap.size #[.int .u8 40, .int .i64 2, .int .i64 0, .string (bs [])] rfl rfl 42 #[.int .u8 0, .int .i64 0, .int .i64 0, .string ⟨#[]⟩] HB0.out (by kernel_rfl) rfl (by kernel_rfl) ?_; rw [World.setRow_alloc_new]) | fail)
 clear HB0
 obtain ⟨g, hg⟩ := ex w.heap.size
 rw [<- hg] at HWA |-
 generalize w.alloc _ = wa at *
 have HG := zh hg
 clear hg
 go_wp2_with fail
 refine (HKD.out wa HWB.out).mono ?_
 rintro e w2 ⟨K, cK, rfl, hcK, hK, hKb, hb2⟩
 obtain ⟨B, hBw⟩ := ex w2.heap.size
 have HS : Hid (Bst w w2 B g ⟨40, 2, 0, bs []⟩ K [k, j] i) := zh (Bst.new (w2' := w2) (HWB.out.trans (hb2.mono HWB.out.size)) ((hb2.block _ HWA.out.lt).trans HWA.out) hK (by rw [HG.out]; exact nlr _) hBw)
 have hg2 : g < w2.heap.size := HS.out.blk.lt
 have c0 : w2.cell? ⟨g, 0, none⟩ = some (.int .u8 40) := HS.out.blk.cell 0
 have c2 : w2.cell? ⟨g, 2, none⟩ = some (.int .i64 (0)) := HS.out.blk.cell 2
 have c3 : w2.cell? ⟨g, 3, none⟩ = some (.string (bs [])) := HS.out.blk.cell 3
 have HKB := zh (ai hKb hcK)
 clear hK hKb hb2 hcK hBw
 obtain ⟨kb, ko, rfl⟩ := HS.out.place (by simp)
 have kk00 : w2.cell? ⟨kb, ko, none⟩ = some (.int .i64 (z0 : Nat)) := HS.out.kcell (j := 0) rfl HZ0.out
 go_wp2_with fail
 refine (rwidth40 _).mono ?_
 rintro e w3 ⟨rfl, hw⟩
 rw [hw]
 clear hw w3
 go_wp2_with fail
 refine (HC0.out w2 HS.out.bel).mono ?_
 rintro e w4 ⟨A4, c4, rfl, ho4, hb4⟩
 obtain ⟨m4, hm4⟩ : ∃ z, z = (sh k 6).length := ⟨_, rfl⟩
 have hm94 : m4 <= 900000 := by rw [hm4]; exact HF0.out
 rw [<- hm4] at ho4 |-
 have HM4 := zh hm4
 have HS4 := zh (HS.out.below hb4)
 have HR4 := zh (own_mono ho4 HS.out.big)
 clear ho4 hb4 hm4
 have k40 := HS4.out.blk.cell 0
 go_wp2_with fail
 refine (HM.out w4).mono ?_
 rintro e w5 ⟨rfl, hb5⟩
 have HS5 := zh (HS4.out.below hb5)
 have HR5 := zh (own_below HR4.out hb5)
 clear hb5
 have HX6 : Hid ((w5.alloc (.cells #[.int .u8 4, .string (⟨#[37]⟩), .int .i64 (0), .int .i64 0] 35)).ownsRow B 35 4 (.slice A4 (m4) c4) (m4) (rowOf zcell (sh k 6)) ∧ RdZ (w5.alloc (.cells #[.int .u8 4, .string (⟨#[37]⟩), .int .i64 (0), .int .i64 0] 35)) (some ⟨w5.heap.size, 0, none⟩) [⟨4, ⟨#[37]⟩, 0, 0⟩]) := zh ⟨HR5.out.alloc _, tok_read 4 (⟨#[37]⟩) (0)⟩
 have HA6 := zh (HS5.out.alloc (.cells #[.int .u8 4, .string (⟨#[37]⟩), .int .i64 (0), .int .i64 0] 35))
 go_wp2_with (at_builtin; refine wpList_app_z rfl (.tmp 180) (.tmp 184) rfl B (m4) c4 1 1 A4 (some ⟨w5.heap.size, 0, none⟩) (sh k 6) [⟨4, ⟨#[37]⟩, 0, 0⟩] rfl HX6.out.1 rfl rfl HX6.out.2 (by omega) HA6.out.big ?_; intro A6 c6 w6 ho6 hg6; have HR6 := zh ho6; have HS6 := zh (HA6.out.grown HX6.out.1 hg6); clear ho6 hg6; have kk61 : w6.cell? ⟨kb, ko + 1, none⟩ = some (.int .i64 (z1 : Nat)) := HS6.out.kcell (j := 1) rfl HZ1.out)
 refine (HC1.out w6 HS6.out.bel).mono ?_
 rintro e w7 ⟨A7, c7, rfl, ho7, hb7⟩
 obtain ⟨m7, hm7⟩ : ∃ z, z = (sh j 7).length := ⟨_, rfl⟩
 have hm97 : m7 <= 900000 := by rw [hm7]; exact HF1.out
 rw [<- hm7] at ho7 |-
 have HM7 := zh hm7
 have HS7 := zh (HS6.out.below hb7)
 have HR7 := zh (own_below HR6.out hb7)
 have HX7 := zh (rdz_ow ho7 HM7.out)
 clear ho7 hb7 hm7
 go_wp2_with (at_builtin; refine wpList_app_z rfl (.tmp 186) (.tmp 193) rfl B (m4 + 1) c6 m7 c7 A6 A7 (sh k 6 ++ [⟨4, ⟨#[37]⟩, 0, 0⟩]) (sh j 7) rfl HR7.out rfl HM7.out HX7.out (by omega) HS7.out.big ?_; intro A8 c8 w8 ho8 hg8; have HR8 := zh ho8; have HS8 := zh (HS7.out.grown HR7.out hg8); clear ho8 hg8)
 go_ret
 exact rp_of (own_mono HR8.out HS8.out.lowB) (by rw [lna, lna, <- HM4.out, <- HM7.out]; rfl) HS8.out.bel (by rw [List.append_assoc]; rfl)
end Go.Proofs.YtbcadlocldplfaaDoor
namespace Go.Proofs.YtbcadlocldplfaaDoor.F3
open Go.Proofs.Tryd
open Go.RowKit
inductive Plan where
 | fin
 | q (i : Nat) (r : Plan)
 | a1 (i : Nat) (r : Plan)
 | a2 (i : Nat) (r : Plan) (j : Nat) (s : Plan)
 | a3 (i : Nat) (r : Plan) (j : Nat) (s : Plan) (k : Nat) (t : Plan)
def Plan.len : Plan -> Nat
 | .fin => 0
 | .q _ r => r.len + 1
 | .a1 _ r => r.len + 1
 | .a2 _ r _ _ => r.len + 1
 | .a3 _ r _ _ _ _ => r.len + 1
section
variable {P : Program} {ops : Array Oper} {Q : Exit -> Act -> World -> Prop} {md : Region.Mode} {e : Nat} {F : World -> Prop}
def wpPlan (P : Program) (ops : Array Oper) (Q : Exit -> Act -> World -> Prop) (e : Nat) (F : World -> Prop) : Bool -> Plan -> Act -> World -> Prop
 | _, .fin, a, w => Q .normal a w
 | nd, .q i r, a, w =>
  match ops[i]? with
  | none => False
  | some o => ∃ v, YieldsIf P ops (fun w => nd = true -> F w) o v a ∧ wpPlan P ops Q e F nd r (a.put o.dst v) w
 | nd, .a1 i r, a, w =>
  match ops[i]? with
  | none => False
  | some o => if Region.wanted o (yielded ops a.tmps) then o.wp P a w (fun a' w' => ((nd && i != e) = true -> F w') ∧ wpPlan P ops Q e F (nd && i != e) r a' w') Q else wpPlan P ops Q e F (nd && i != e) r (a.put o.dst undef) w
 | nd, .a2 i r j s, a, w =>
  (match ops[i]? with
  | none => False
  | some o => if Region.wanted o (yielded ops a.tmps) then o.wp P a w (fun a' w' => ((nd && i != e) = true -> F w') ∧ wpPlan P ops Q e F (nd && i != e) r a' w') Q else wpPlan P ops Q e F (nd && i != e) r (a.put o.dst undef) w) ∧
  (match ops[j]? with
  | none => False
  | some o => if Region.wanted o (yielded ops a.tmps) then o.wp P a w (fun a' w' => ((nd && j != e) = true -> F w') ∧ wpPlan P ops Q e F (nd && j != e) s a' w') Q else wpPlan P ops Q e F (nd && j != e) s (a.put o.dst undef) w)
 | nd, .a3 i r j s k t, a, w =>
  (match ops[i]? with
  | none => False
  | some o => if Region.wanted o (yielded ops a.tmps) then o.wp P a w (fun a' w' => ((nd && i != e) = true -> F w') ∧ wpPlan P ops Q e F (nd && i != e) r a' w') Q else wpPlan P ops Q e F (nd && i != e) r (a.put o.dst undef) w) ∧
  (match ops[j]? with
  | none => False
  | some o => if Region.wanted o (yielded ops a.tmps) then o.wp P a w (fun a' w' => ((nd && j != e) = true -> F w') ∧ wpPlan P ops Q e F (nd && j != e) s a' w') Q else wpPlan P ops Q e F (nd && j != e) s (a.put o.dst undef) w) ∧
  (match ops[k]? with
  | none => False
  | some o => if Region.wanted o (yielded ops a.tmps) then o.wp P a w (fun a' w' => ((nd && k != e) = true -> F w') ∧ wpPlan P ops Q e F (nd && k != e) t a' w') Q else wpPlan P ops Q e F (nd && k != e) t (a.put o.dst undef) w)
def Region.planB (md : Region.Mode) (ops : Array Oper) (e : Nat) : Plan -> Array Bool -> Bool
 | .fin, listed => (Region.ready md ops listed).isEmpty
 | .a1 i r, listed => decide (Region.ready md ops listed = [i]) && Region.planB md ops e r (listed.setIfInBounds i true)
 | .a2 i r j s, listed => decide (Region.ready md ops listed = [i, j]) && (r.len == s.len) && Region.planB md ops e r (listed.setIfInBounds i true) && Region.planB md ops e s (listed.setIfInBounds j true)
 | .a3 i r j s k t, listed => decide (Region.ready md ops listed = [i, j, k]) && (r.len == s.len) && (r.len == t.len) && Region.planB md ops e r (listed.setIfInBounds i true) && Region.planB md ops e s (listed.setIfInBounds j true) && Region.planB md ops e t (listed.setIfInBounds k true)
 | .q i r, listed => (Region.ready md ops listed).contains i && Region.free md ops listed i && (i != e) && (listed.getD e false || decide (ops.size <= e) || Region.waitsT md ops 12 e i) && Region.planB md ops e r (listed.setIfInBounds i true)
theorem nd_step {listed : Array Bool} {nd : Bool} {j : Nat} (hnd : nd = !listed.getD e false) (hlt : j < listed.size) : (nd && j != e) = !(listed.setIfInBounds j true).getD e false := by
 by_cases hje : j = e
 . subst hje
   have : (listed.setIfInBounds j true).getD j false = true := by simp [hlt]
   rw [this]; simp
 . rw [getD_set_ne false hje, hnd]
   have : (j != e) = true := by simpa using hje
   rw [this, Bool.and_true]
theorem plan_act {listed : Array Bool} {nd : Bool} {a : Act} {w : World} {i : Nat} {r : Plan} (hmem : i ∈ Region.ready md ops listed) (hnd : nd = !listed.getD e false) (hF : nd = true -> F w)
 (ih : ∀ a' w', ((nd && i != e) = !(listed.setIfInBounds i true).getD e false) -> ((nd && i != e) = true -> F w') -> wpPlan P ops Q e F (nd && i != e) r a' w' -> wpAnyM P md ops Q e F r.len (listed.setIfInBounds i true) a' w')
 (h : match ops[i]? with
  | none => False
  | some o => if Region.wanted o (yielded ops a.tmps) then o.wp P a w (fun a' w' => ((nd && i != e) = true -> F w') ∧ wpPlan P ops Q e F (nd && i != e) r a' w') Q else wpPlan P ops Q e F (nd && i != e) r (a.put o.dst undef) w) :
 wpOp P ops Q i (fun a' w' => SE e F (listed.setIfInBounds i true) w' ∧ wpAnyM P md ops Q e F r.len (listed.setIfInBounds i true) a' w') a w := by
 obtain ⟨hun, o, ho, _⟩ := mem_ready.1 hmem
 have hlt : i < listed.size := by
  rcases Nat.lt_or_ge i listed.size with h' | h'
  . exact h'
  . simp [Array.getElem?_eq_none h'] at hun
 have hnd' := nd_step (e := e) (j := i) hnd hlt
 have hSE : ∀ w', ((nd && i != e) = true -> F w') -> SE e F (listed.setIfInBounds i true) w' := fun w' hF' => by
  cases hb : (listed.setIfInBounds i true).getD e false with
  | true => exact .inl hb
  | false => rw [hb] at hnd'; exact .inr (hF' (by rw [hnd']; rfl))
 simp only [ho] at h
 unfold wpOp
 simp only [ho]
 split at h
 . rename_i hw
   rw [if_pos hw]
   refine .inl (Oper.wp_mono (fun a' w' h' => ?_) h)
   exact ⟨hSE w' h'.1, ih a' w' hnd' h'.1 h'.2⟩
 . rename_i hw
   rw [if_neg hw]
   have hF' : (nd && i != e) = true -> F w := fun hh => hF (by rw [Bool.and_eq_true] at hh; exact hh.1)
   exact ⟨hSE w hF', ih _ w hnd' hF' h⟩
theorem plan_sound (hsel : Region.noSelect ops = true) (hQ : ∀ c a w d v, Q (.panic c) (Act.put a d v) w -> Q (.panic c) a w) : ∀ (r : Plan) (nd : Bool) (listed : Array Bool) (a : Act) (w : World),
 Region.planB md ops e r listed = true -> (nd = !listed.getD e false) -> Closed md ops listed -> (nd = true -> F w) -> wpPlan P ops Q e F nd r a w -> wpAnyM P md ops Q e F r.len listed a w
 | .fin, nd, listed, a, w, hB, _, _, _, h => ⟨by simpa [Region.planB] using hB, h⟩
 | .a1 i r, nd, listed, a, w, hB, hnd, hcl, hF, h => by
  simp only [Region.planB, Bool.and_eq_true, decide_eq_true_eq] at hB
  refine ⟨fun h0 => (by rw [hB.1] at h0; cases h0), fun j hj => ?_⟩
  rw [hB.1] at hj
  have hji : j = i := by simpa using hj
  subst hji
  have hmem : j ∈ Region.ready md ops listed := by rw [hB.1]; simp
  unfold wpPlan at h
  exact plan_act hmem hnd hF (fun a' w' h1 h2 h3 => plan_sound hsel hQ r _ _ a' w' hB.2 h1 (hcl.set hmem) h2 h3) h
 | .a2 i r k s, nd, listed, a, w, hB, hnd, hcl, hF, h => by
  simp only [Region.planB, Bool.and_eq_true, decide_eq_true_eq, beq_iff_eq] at hB
  obtain ⟨⟨⟨hr, hl⟩, hB1⟩, hB2⟩ := hB
  refine ⟨fun h0 => (by rw [hr] at h0; cases h0), fun j hj => ?_⟩
  have hmem := hj
  rw [hr] at hj
  unfold wpPlan at h
  have hj' : j = i ∨ j = k := by simpa using hj
  rcases hj' with hj' | hj'
  . subst hj'
    exact plan_act hmem hnd hF (fun a' w' h1 h2 h3 => plan_sound hsel hQ r _ _ a' w' hB1 h1 (hcl.set hmem) h2 h3) h.1
  . subst hj'
    have := plan_act (r := s) hmem hnd hF (fun a' w' h1 h2 h3 => plan_sound hsel hQ s _ _ a' w' hB2 h1 (hcl.set hmem) h2 h3) h.2
    rw [<- hl] at this
    exact this
 | .a3 i r k s k3 t, nd, listed, a, w, hB, hnd, hcl, hF, h => by
  simp only [Region.planB, Bool.and_eq_true, decide_eq_true_eq, beq_iff_eq] at hB
  obtain ⟨⟨⟨⟨⟨hr, hl⟩, hl3⟩, hB1⟩, hB2⟩, hB3⟩ := hB
  refine ⟨fun h0 => (by rw [hr] at h0; cases h0), fun j hj => ?_⟩
  have hmem := hj
  rw [hr] at hj
  unfold wpPlan at h
  have hj' : j = i ∨ j = k ∨ j = k3 := by simpa using hj
  rcases hj' with hj' | hj' | hj'
  . subst hj'
    exact plan_act hmem hnd hF (fun a' w' h1 h2 h3 => plan_sound hsel hQ r _ _ a' w' hB1 h1 (hcl.set hmem) h2 h3) h.1
  . subst hj'
    have := plan_act (r := s) hmem hnd hF (fun a' w' h1 h2 h3 => plan_sound hsel hQ s _ _ a' w' hB2 h1 (hcl.set hmem) h2 h3) h.2.1
    rw [<- hl] at this
    exact this
  . subst hj'
    have := plan_act (r := t) hmem hnd hF (fun a' w' h1 h2 h3 => plan_sound hsel hQ t _ _ a' w' hB3 h1 (hcl.set hmem) h2 h3) h.2.2
    rw [<- hl3] at this
    exact this
 | .q i r, nd, listed, a, w, hB, hnd, hcl, hF, h => by
  simp only [Region.planB, Bool.and_eq_true] at hB
  obtain ⟨⟨⟨⟨hr, hf⟩, hie⟩, hwe⟩, hB'⟩ := hB
  have hr' : i ∈ Region.ready md ops listed := by simpa using hr
  obtain ⟨hun, o, ho, _⟩ := mem_ready.1 hr'
  have hei : e ≠ i := fun h => by subst h; simp at hie
  unfold wpPlan at h
  simp only [ho] at h
  obtain ⟨v, hy, hK⟩ := h
  have hS : SE e F listed w := by
   cases hb : listed.getD e false with
   | true => exact .inl hb
   | false => rw [hb] at hnd; exact .inr (hF (by rw [hnd]; rfl))
  refine wpAnyM_first (G := fun w => nd = true -> F w) (fun listed => nd = (!listed.getD e false) ∧ Closed md ops listed) ho (Region.noSelect_spec hsel) hei (fun c a w => hQ c a w _ _) ?_ ?_ r.len listed a w (Region.free_spec ho hf) hr' ⟨hnd, hcl⟩ hy hS
   (plan_sound hsel hQ r nd _ _ w hB' (by rw [getD_set_ne false (Ne.symm hei)]; exact hnd) (hcl.set hr') hF hK)
  . rintro listed' j ⟨hg, hcl'⟩ hri hrj hji
    refine ⟨?_, hcl'.set hrj⟩
    rw [hg]
    by_cases hje : j = e
    . subst hje
      rw [Bool.or_eq_true, Bool.or_eq_true] at hwe
      rcases hwe with h1 | h1
      . rcases h1 with h2 | h2
        . have h3 : nd = false := by rw [hnd, h2]; rfl
          rw [h3] at hg
          have h4 : listed'.getD j false = true := by cases hb : listed'.getD j false with | true => rfl | false => rw [hb] at hg; cases hg
          have h5 := (mem_ready.1 hrj).1
          rw [getD_both h5] at h4; cases h4
        . obtain ⟨_, oj, hoj, _⟩ := mem_ready.1 hrj
          have := (Array.getElem?_eq_some_iff.1 hoj).1
          have h3 := of_decide_eq_true h2
          omega
      . have h2 := waitsT_listed hcl' 12 j (.inl hrj) h1
        rw [getD_both (mem_ready.1 hri).1] at h2
        cases h2
    . rw [getD_set_ne false hje]
  . rintro listed' w' ⟨hg, _⟩ hS' hnd'
    rcases hS' with h1 | h1
    . rw [h1] at hg; rw [hg] at hnd'; cases hnd'
    . exact h1
theorem wp_region_plan {id : Nat} {a : Act} {w : World} (r : Plan) (e : Nat) (F : World -> Prop) (hm : P.follows .mixedOrders = true) (hlen : r.len = ops.size)
 (hB : (Region.noSelect ops && Region.planB .any ops e r (Array.replicate ops.size false)) = true) (hF : F w.drew)
 (h : wpPlan P ops (NoPanic Q) e F true r a w.drew) : (Code.region id ops true).wp P Q a w := by
 rw [Bool.and_eq_true] at hB
 refine wp_region_noPanic (wp_region_any hm (wpAny_of_M (e := e) (F := F) _ _ _ _ ?_))
 have := plan_sound (P := P) (Q := NoPanic Q) (F := F) hB.1 (fun c a w d v h => h.elim) r true (Array.replicate ops.size false) a w.drew hB.2 (by rw [getD_replicate_false]; rfl) (Closed.start _) (fun _ => hF) h
 rwa [hlen] at this
end
section
variable {P : Program} {l : List Oper} {Q : Exit -> Act -> World -> Prop} {e : Nat} {F : World -> Prop}
theorem wpPlan_step {nd : Bool} {i : Nat} {o : Oper} {r : Plan} {a : Act} {w : World} (C : World -> Prop) (hC : ∀ w, (nd = true -> F w) -> C w) (ho : l[i]? = some o) (hp : pureOp o.op = true)
 (hw : Region.wanted o (yielded l.toArray a.tmps) = true) (h : ∀ K : Act -> Prop, (∀ a', wpPlan P l.toArray Q e F nd r a' w -> K a') -> o.quiet P a C K) : wpPlan P l.toArray Q e F nd (.q i r) a w := by
 obtain ⟨v, h1, h2⟩ := h _ (fun _ h => h)
 unfold wpPlan
 simp only [arr_get ho]
 refine ⟨v, .inl ⟨hw, fun w hF => ?_⟩, h2⟩
 have h3 := h1 w (hC w hF)
 unfold Oper.quietAt at h3
 cases hr : (execOp a.eval o).run P w with
 | halt x w' => rw [hr] at h3; exact h3.elim
 | ok n w' =>
  obtain ⟨u, rfl⟩ := exec_value hp hr
  rw [hr] at h3
  obtain ⟨e1, e2⟩ := h3
  rw [e1, e2]
theorem wpPlan_q {i : Nat} {o : Oper} {r : Plan} {a : Act} {w : World} (ho : l[i]? = some o) (hp : pureOp o.op = true)
 (hw : Region.wanted o (yielded l.toArray a.tmps) = true) (h : ∀ K : Act -> Prop, (∀ a', wpPlan P l.toArray Q e F true r a' w -> K a') -> o.quiet P a F K) : wpPlan P l.toArray Q e F true (.q i r) a w :=
 wpPlan_step F (fun _ h => h rfl) ho hp hw h
theorem wpPlan_p {i : Nat} {o : Oper} {r : Plan} {a : Act} {w : World} (ho : l[i]? = some o) (hp : pureOp o.op = true)
 (hw : Region.wanted o (yielded l.toArray a.tmps) = true) (h : ∀ K : Act -> Prop, (∀ a', wpPlan P l.toArray Q e F false r a' w -> K a') -> o.quiet P a (fun _ => True) K) : wpPlan P l.toArray Q e F false (.q i r) a w :=
 wpPlan_step (fun _ => True) (fun _ _ => trivial) ho hp hw h
theorem wpPlan_act {nd : Bool} {i : Nat} {o : Oper} {r : Plan} {a : Act} {w : World} (nd' : Bool) (hnd : (nd && i != e) = nd') (ho : l[i]? = some o) (hF : Region.wanted o (yielded l.toArray a.tmps) = true)
 (h : ∀ K : Act -> World -> Prop, (∀ a' w', (nd' = true -> F w') -> wpPlan P l.toArray Q e F nd' r a' w' -> K a' w') -> o.wp P a w K Q) : wpPlan P l.toArray Q e F nd (.a1 i r) a w := by
 have h' := h _ (fun a' w' h1 h2 => ai h1 h2)
 unfold wpPlan
 simp only [arr_get ho]
 rw [if_pos hF, hnd]
 exact h'
theorem wpPlan_fin {nd : Bool} {Q' : Exit -> Act -> World -> Prop} {a : Act} {w : World} (h : Q' .normal a w) : wpPlan P l.toArray (NoPanic Q') e F nd .fin a w := h
end
end Go.Proofs.YtbcadlocldplfaaDoor.F3
