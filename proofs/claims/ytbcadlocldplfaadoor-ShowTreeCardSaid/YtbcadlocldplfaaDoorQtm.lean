/- The writer's expr, operations 42, 32, 33, 34, 35, 30, 31, 36, 37, 38. And what follows from it. -/
import Derived.Test.YtbcadlocldplfaaDoorQtl
import Derived.Test.YtbcadlocldplfaaDoorQt0
set_option maxHeartbeats 16000000
set_option linter.unusedSimpArgs false
set_option linter.unusedVariables false
namespace Go.Proofs.YtbcadlocldplfaaDoor
open Go.Proofs.Tryd
set_option maxRecDepth 100000
open Go.RowKit T8
theorem ex42 (N : Nat) (hE : ExprOk N) (hB : BlockOk N) (k j : Tr) (hk : Rt 0 k ∧ k.flat.length <= N) (hj : Rt 0 j ∧ j.flat.length <= N) (g a : Nat) (ha : a <= 8) (l : List Tw) (o : List Tz) (w : World) (hm : WrM w g ((Tr.flat (.node ⟨42, 2, 0, bs []⟩ [k, j])) ++ l) o) (ho : o.length + (sh (.node ⟨42, 2, 0, bs []⟩ [k, j]) a).length <= 1000000) :
 Calls prog 27 #[gp g, .int .i64 (a : Nat)] w (SPost w g l (o ++ sh (.node ⟨42, 2, 0, bs []⟩ [k, j]) a)) := by
 have HSH : Hid (sh (.node ⟨42, 2, 0, bs []⟩ [k, j]) a = sh k 8 ++ (lisS [91] (shs [j]) [93])) := zh (by
  rw [sh_expr _ _ (by omega), if_neg (by show ¬ width 42 < a; have : width 42 = 8 := rfl; omega)]
  rw [shs_map]; rfl)
 have HL : Hid (o.length + (sh k 8 ++ (lisS [91] (shs [j]) [93])).length <= 1000000) := zh (by rw [<- HSH.out]; exact ho)
 have HM : Hid (WrM w g (⟨42, 2, 0, bs []⟩ :: (k.flat ++ (j.flat ++ l))) o) := zh (by simpa [Tr.flat, flats] using hm)
 have HE := zh hE
 have HB := zh hB
 have HK := zh (ai hk hj)
 clear hk hj
 clear hm ho hE hB
 have d : decide ((8 : Int) < (a : Int)) = false := dqf (by omega)
 go_enter_defers func27, ntmps27
 go_wp2_with fail
 refine (next_any g ⟨42, 2, 0, bs []⟩ (k.flat ++ (j.flat ++ l)) o w HM.out).mono ?_
 rintro e w1 ⟨rfl, hk1, hm1⟩
 have H0 := zh (nwH (l := k.flat ++ (j.flat ++ l)) (o := o) hk1 hm1 42 #[.int .u8 42, .int .i64 2, .int .i64 0, .string (bs [])])
 clear hk1 hm1 HM
 go_wp2_with fail
 refine (width_is 42 8 rfl _).mono ?_
 rintro e w2 ⟨rfl, rfl⟩
 generalize w1.alloc _ = wa at *
 have c0 := H0.out.2.2.1.cell 0
 have c1 := H0.out.2.2.1.cell 1
 have c3 := H0.out.2.2.1.cell 3
 simp at c0 c1 c3
 go_wp2_with fail
 refine (HE.out k HK.out.1.1 HK.out.1.2 g 8 _ _ _ (by omega) H0.out.2.1 (by have := HL.out; (try simp only [lna, lnc, lnn] at this |-); omega)).mono ?_
 rintro e w3 ⟨rfl, hk, hm⟩
 have H3 := zh (kpH (l := j.flat ++ l) (o := o ++ sh k 8) H0.out hk hm (by decide))
 clear hk hm
 clear c0 c1 c3
 have c0 := H3.out.2.2.cell 0
 have c1 := H3.out.2.2.cell 1
 have c3 := H3.out.2.2.cell 3
 simp at c0 c1 c3
 go_wp2_with fail
 refine (wlist_any N HE.out [j] (mem1 HK.out.2) [91] [93] g 1 _ _ _ (by rw [flat1]; exact H3.out.2.1) rfl (by omega) (by have := HL.out; (try simp only [lna, lnc, lnn] at this |-); omega)).mono ?_
 rintro e w4 ⟨rfl, hk, hm⟩
 have H4 : Hid (Kp g w w4 ∧ WrM w4 g (l) ((o ++ sh k 8) ++ lisS [91] (shs [j]) [93]) ∧ Blk w4 w1.heap.size 42 #[.int .u8 42, .int .i64 2, .int .i64 0, .string (bs [])]) := zh ⟨H3.out.1.trans hk, hm, H3.out.2.2.kp hk H0.out.2.2.2 (by decide)⟩
 clear hk hm
 go_wp2_with fail
 refine ⟨_, results_none rfl _ _ _, rfl, H4.out.1, ?_⟩
 rw [HSH.out]
 have := H4.out.2.1
 simpa only [List.append_assoc] using this
theorem ex32 (N : Nat) (hE : ExprOk N) (hB : BlockOk N) (k j : Tr) (hk : Rt 0 k ∧ k.flat.length <= N) (hj : Rt 0 j ∧ j.flat.length <= N) (g a : Nat) (ha : a <= 4) (l : List Tw) (o : List Tz) (w : World) (hm : WrM w g ((Tr.flat (.node ⟨32, 2, 0, bs []⟩ [k, j])) ++ l) o) (ho : o.length + (sh (.node ⟨32, 2, 0, bs []⟩ [k, j]) a).length <= 1000000) :
 Calls prog 27 #[gp g, .int .i64 (a : Nat)] w (SPost w g l (o ++ sh (.node ⟨32, 2, 0, bs []⟩ [k, j]) a)) := by
 have HSH : Hid (sh (.node ⟨32, 2, 0, bs []⟩ [k, j]) a = sh k 5 ++ ([midT 32] ++ (sh j 5))) := zh (by
  rw [sh_expr _ _ (by omega), if_neg (by show ¬ width 32 < a; have : width 32 = 4 := rfl; omega)]
  rw [shs_map]; rfl)
 have HL : Hid (o.length + (sh k 5 ++ ([midT 32] ++ (sh j 5))).length <= 1000000) := zh (by rw [<- HSH.out]; exact ho)
 have HM : Hid (WrM w g (⟨32, 2, 0, bs []⟩ :: (k.flat ++ (j.flat ++ l))) o) := zh (by simpa [Tr.flat, flats] using hm)
 have HE := zh hE
 have HB := zh hB
 have HK := zh (ai hk hj)
 clear hk hj
 clear hm ho hE hB
 have d : decide ((4 : Int) < (a : Int)) = false := dqf (by omega)
 go_enter_defers func27, ntmps27
 go_wp2_with fail
 refine (next_any g ⟨32, 2, 0, bs []⟩ (k.flat ++ (j.flat ++ l)) o w HM.out).mono ?_
 rintro e w1 ⟨rfl, hk1, hm1⟩
 have H0 := zh (nwH (l := k.flat ++ (j.flat ++ l)) (o := o) hk1 hm1 42 #[.int .u8 32, .int .i64 2, .int .i64 0, .string (bs [])])
 clear hk1 hm1 HM
 go_wp2_with fail
 refine (width_is 32 4 rfl _).mono ?_
 rintro e w2 ⟨rfl, rfl⟩
 generalize w1.alloc _ = wa at *
 have c0 := H0.out.2.2.1.cell 0
 have c1 := H0.out.2.2.1.cell 1
 have c3 := H0.out.2.2.1.cell 3
 simp at c0 c1 c3
 go_wp2_with fail
 refine (HE.out k HK.out.1.1 HK.out.1.2 g 5 _ _ _ (by omega) H0.out.2.1 (by have := HL.out; (try simp only [lna, lnc, lnn] at this |-); omega)).mono ?_
 rintro e w3 ⟨rfl, hk, hm⟩
 have H3 := zh (kpH (l := j.flat ++ l) (o := o ++ sh k 5) H0.out hk hm (by decide))
 clear hk hm
 clear c0 c1 c3
 have c0 := H3.out.2.2.cell 0
 have c1 := H3.out.2.2.cell 1
 have c3 := H3.out.2.2.cell 3
 simp at c0 c1 c3
 go_wp2_with fail
 refine (between_any 32 g _ _ _ H3.out.2.1 (by have := HL.out; (try simp only [lna, lnc, lnn] at this |-); omega) (by omega)).mono ?_
 rintro e w4 ⟨rfl, hk, hm⟩
 have H4 : Hid (Kp g w w4 ∧ WrM w4 g (j.flat ++ l) ((o ++ sh k 5) ++ [midT 32]) ∧ Blk w4 w1.heap.size 42 #[.int .u8 32, .int .i64 2, .int .i64 0, .string (bs [])]) := zh ⟨H3.out.1.trans hk, hm, H3.out.2.2.kp hk H0.out.2.2.2 (by decide)⟩
 clear hk hm
 clear c0 c1 c3
 have c0 := H4.out.2.2.cell 0
 have c1 := H4.out.2.2.cell 1
 have c3 := H4.out.2.2.cell 3
 simp at c0 c1 c3
 go_wp2_with fail
 refine (HE.out j HK.out.2.1 HK.out.2.2 g 5 _ _ _ (by omega) H4.out.2.1 (by have := HL.out; (try simp only [lna, lnc, lnn] at this |-); omega)).mono ?_
 rintro e w5 ⟨rfl, hk, hm⟩
 have H5 : Hid (Kp g w w5 ∧ WrM w5 g (l) (((o ++ sh k 5) ++ [midT 32]) ++ sh j 5) ∧ Blk w5 w1.heap.size 42 #[.int .u8 32, .int .i64 2, .int .i64 0, .string (bs [])]) := zh ⟨H4.out.1.trans hk, hm, H4.out.2.2.kp hk H0.out.2.2.2 (by decide)⟩
 clear hk hm
 go_wp2_with fail
 refine ⟨_, results_none rfl _ _ _, rfl, H5.out.1, ?_⟩
 rw [HSH.out]
 have := H5.out.2.1
 simpa only [List.append_assoc] using this
theorem ex33 (N : Nat) (hE : ExprOk N) (hB : BlockOk N) (k j : Tr) (hk : Rt 0 k ∧ k.flat.length <= N) (hj : Rt 0 j ∧ j.flat.length <= N) (g a : Nat) (ha : a <= 4) (l : List Tw) (o : List Tz) (w : World) (hm : WrM w g ((Tr.flat (.node ⟨33, 2, 0, bs []⟩ [k, j])) ++ l) o) (ho : o.length + (sh (.node ⟨33, 2, 0, bs []⟩ [k, j]) a).length <= 1000000) :
 Calls prog 27 #[gp g, .int .i64 (a : Nat)] w (SPost w g l (o ++ sh (.node ⟨33, 2, 0, bs []⟩ [k, j]) a)) := by
 have HSH : Hid (sh (.node ⟨33, 2, 0, bs []⟩ [k, j]) a = sh k 5 ++ ([midT 33] ++ (sh j 5))) := zh (by
  rw [sh_expr _ _ (by omega), if_neg (by show ¬ width 33 < a; have : width 33 = 4 := rfl; omega)]
  rw [shs_map]; rfl)
 have HL : Hid (o.length + (sh k 5 ++ ([midT 33] ++ (sh j 5))).length <= 1000000) := zh (by rw [<- HSH.out]; exact ho)
 have HM : Hid (WrM w g (⟨33, 2, 0, bs []⟩ :: (k.flat ++ (j.flat ++ l))) o) := zh (by simpa [Tr.flat, flats] using hm)
 have HE := zh hE
 have HB := zh hB
 have HK := zh (ai hk hj)
 clear hk hj
 clear hm ho hE hB
 have d : decide ((4 : Int) < (a : Int)) = false := dqf (by omega)
 go_enter_defers func27, ntmps27
 go_wp2_with fail
 refine (next_any g ⟨33, 2, 0, bs []⟩ (k.flat ++ (j.flat ++ l)) o w HM.out).mono ?_
 rintro e w1 ⟨rfl, hk1, hm1⟩
 have H0 := zh (nwH (l := k.flat ++ (j.flat ++ l)) (o := o) hk1 hm1 42 #[.int .u8 33, .int .i64 2, .int .i64 0, .string (bs [])])
 clear hk1 hm1 HM
 go_wp2_with fail
 refine (width_is 33 4 rfl _).mono ?_
 rintro e w2 ⟨rfl, rfl⟩
 generalize w1.alloc _ = wa at *
 have c0 := H0.out.2.2.1.cell 0
 have c1 := H0.out.2.2.1.cell 1
 have c3 := H0.out.2.2.1.cell 3
 simp at c0 c1 c3
 go_wp2_with fail
 refine (HE.out k HK.out.1.1 HK.out.1.2 g 5 _ _ _ (by omega) H0.out.2.1 (by have := HL.out; (try simp only [lna, lnc, lnn] at this |-); omega)).mono ?_
 rintro e w3 ⟨rfl, hk, hm⟩
 have H3 := zh (kpH (l := j.flat ++ l) (o := o ++ sh k 5) H0.out hk hm (by decide))
 clear hk hm
 clear c0 c1 c3
 have c0 := H3.out.2.2.cell 0
 have c1 := H3.out.2.2.cell 1
 have c3 := H3.out.2.2.cell 3
 simp at c0 c1 c3
 go_wp2_with fail
 refine (between_any 33 g _ _ _ H3.out.2.1 (by have := HL.out; (try simp only [lna, lnc, lnn] at this |-); omega) (by omega)).mono ?_
 rintro e w4 ⟨rfl, hk, hm⟩
 have H4 : Hid (Kp g w w4 ∧ WrM w4 g (j.flat ++ l) ((o ++ sh k 5) ++ [midT 33]) ∧ Blk w4 w1.heap.size 42 #[.int .u8 33, .int .i64 2, .int .i64 0, .string (bs [])]) := zh ⟨H3.out.1.trans hk, hm, H3.out.2.2.kp hk H0.out.2.2.2 (by decide)⟩
 clear hk hm
 clear c0 c1 c3
 have c0 := H4.out.2.2.cell 0
 have c1 := H4.out.2.2.cell 1
 have c3 := H4.out.2.2.cell 3
 simp at c0 c1 c3
 go_wp2_with fail
 refine (HE.out j HK.out.2.1 HK.out.2.2 g 5 _ _ _ (by omega) H4.out.2.1 (by have := HL.out; (try simp only [lna, lnc, lnn] at this |-); omega)).mono ?_
 rintro e w5 ⟨rfl, hk, hm⟩
 have H5 : Hid (Kp g w w5 ∧ WrM w5 g (l) (((o ++ sh k 5) ++ [midT 33]) ++ sh j 5) ∧ Blk w5 w1.heap.size 42 #[.int .u8 33, .int .i64 2, .int .i64 0, .string (bs [])]) := zh ⟨H4.out.1.trans hk, hm, H4.out.2.2.kp hk H0.out.2.2.2 (by decide)⟩
 clear hk hm
 go_wp2_with fail
 refine ⟨_, results_none rfl _ _ _, rfl, H5.out.1, ?_⟩
 rw [HSH.out]
 have := H5.out.2.1
 simpa only [List.append_assoc] using this
theorem ex34 (N : Nat) (hE : ExprOk N) (hB : BlockOk N) (k j : Tr) (hk : Rt 0 k ∧ k.flat.length <= N) (hj : Rt 0 j ∧ j.flat.length <= N) (g a : Nat) (ha : a <= 4) (l : List Tw) (o : List Tz) (w : World) (hm : WrM w g ((Tr.flat (.node ⟨34, 2, 0, bs []⟩ [k, j])) ++ l) o) (ho : o.length + (sh (.node ⟨34, 2, 0, bs []⟩ [k, j]) a).length <= 1000000) :
 Calls prog 27 #[gp g, .int .i64 (a : Nat)] w (SPost w g l (o ++ sh (.node ⟨34, 2, 0, bs []⟩ [k, j]) a)) := by
 have HSH : Hid (sh (.node ⟨34, 2, 0, bs []⟩ [k, j]) a = sh k 5 ++ ([midT 34] ++ (sh j 5))) := zh (by
  rw [sh_expr _ _ (by omega), if_neg (by show ¬ width 34 < a; have : width 34 = 4 := rfl; omega)]
  rw [shs_map]; rfl)
 have HL : Hid (o.length + (sh k 5 ++ ([midT 34] ++ (sh j 5))).length <= 1000000) := zh (by rw [<- HSH.out]; exact ho)
 have HM : Hid (WrM w g (⟨34, 2, 0, bs []⟩ :: (k.flat ++ (j.flat ++ l))) o) := zh (by simpa [Tr.flat, flats] using hm)
 have HE := zh hE
 have HB := zh hB
 have HK := zh (ai hk hj)
 clear hk hj
 clear hm ho hE hB
 have d : decide ((4 : Int) < (a : Int)) = false := dqf (by omega)
 go_enter_defers func27, ntmps27
 go_wp2_with fail
 refine (next_any g ⟨34, 2, 0, bs []⟩ (k.flat ++ (j.flat ++ l)) o w HM.out).mono ?_
 rintro e w1 ⟨rfl, hk1, hm1⟩
 have H0 := zh (nwH (l := k.flat ++ (j.flat ++ l)) (o := o) hk1 hm1 42 #[.int .u8 34, .int .i64 2, .int .i64 0, .string (bs [])])
 clear hk1 hm1 HM
 go_wp2_with fail
 refine (width_is 34 4 rfl _).mono ?_
 rintro e w2 ⟨rfl, rfl⟩
 generalize w1.alloc _ = wa at *
 have c0 := H0.out.2.2.1.cell 0
 have c1 := H0.out.2.2.1.cell 1
 have c3 := H0.out.2.2.1.cell 3
 simp at c0 c1 c3
 go_wp2_with fail
 refine (HE.out k HK.out.1.1 HK.out.1.2 g 5 _ _ _ (by omega) H0.out.2.1 (by have := HL.out; (try simp only [lna, lnc, lnn] at this |-); omega)).mono ?_
 rintro e w3 ⟨rfl, hk, hm⟩
 have H3 := zh (kpH (l := j.flat ++ l) (o := o ++ sh k 5) H0.out hk hm (by decide))
 clear hk hm
 clear c0 c1 c3
 have c0 := H3.out.2.2.cell 0
 have c1 := H3.out.2.2.cell 1
 have c3 := H3.out.2.2.cell 3
 simp at c0 c1 c3
 go_wp2_with fail
 refine (between_any 34 g _ _ _ H3.out.2.1 (by have := HL.out; (try simp only [lna, lnc, lnn] at this |-); omega) (by omega)).mono ?_
 rintro e w4 ⟨rfl, hk, hm⟩
 have H4 : Hid (Kp g w w4 ∧ WrM w4 g (j.flat ++ l) ((o ++ sh k 5) ++ [midT 34]) ∧ Blk w4 w1.heap.size 42 #[.int .u8 34, .int .i64 2, .int .i64 0, .string (bs [])]) := zh ⟨H3.out.1.trans hk, hm, H3.out.2.2.kp hk H0.out.2.2.2 (by decide)⟩
 clear hk hm
 clear c0 c1 c3
 have c0 := H4.out.2.2.cell 0
 have c1 := H4.out.2.2.cell 1
 have c3 := H4.out.2.2.cell 3
 simp at c0 c1 c3
 go_wp2_with fail
 refine (HE.out j HK.out.2.1 HK.out.2.2 g 5 _ _ _ (by omega) H4.out.2.1 (by have := HL.out; (try simp only [lna, lnc, lnn] at this |-); omega)).mono ?_
 rintro e w5 ⟨rfl, hk, hm⟩
 have H5 : Hid (Kp g w w5 ∧ WrM w5 g (l) (((o ++ sh k 5) ++ [midT 34]) ++ sh j 5) ∧ Blk w5 w1.heap.size 42 #[.int .u8 34, .int .i64 2, .int .i64 0, .string (bs [])]) := zh ⟨H4.out.1.trans hk, hm, H4.out.2.2.kp hk H0.out.2.2.2 (by decide)⟩
 clear hk hm
 go_wp2_with fail
 refine ⟨_, results_none rfl _ _ _, rfl, H5.out.1, ?_⟩
 rw [HSH.out]
 have := H5.out.2.1
 simpa only [List.append_assoc] using this
theorem ex35 (N : Nat) (hE : ExprOk N) (hB : BlockOk N) (k j : Tr) (hk : Rt 0 k ∧ k.flat.length <= N) (hj : Rt 0 j ∧ j.flat.length <= N) (g a : Nat) (ha : a <= 4) (l : List Tw) (o : List Tz) (w : World) (hm : WrM w g ((Tr.flat (.node ⟨35, 2, 0, bs []⟩ [k, j])) ++ l) o) (ho : o.length + (sh (.node ⟨35, 2, 0, bs []⟩ [k, j]) a).length <= 1000000) :
 Calls prog 27 #[gp g, .int .i64 (a : Nat)] w (SPost w g l (o ++ sh (.node ⟨35, 2, 0, bs []⟩ [k, j]) a)) := by
 have HSH : Hid (sh (.node ⟨35, 2, 0, bs []⟩ [k, j]) a = sh k 5 ++ ([midT 35] ++ (sh j 5))) := zh (by
  rw [sh_expr _ _ (by omega), if_neg (by show ¬ width 35 < a; have : width 35 = 4 := rfl; omega)]
  rw [shs_map]; rfl)
 have HL : Hid (o.length + (sh k 5 ++ ([midT 35] ++ (sh j 5))).length <= 1000000) := zh (by rw [<- HSH.out]; exact ho)
 have HM : Hid (WrM w g (⟨35, 2, 0, bs []⟩ :: (k.flat ++ (j.flat ++ l))) o) := zh (by simpa [Tr.flat, flats] using hm)
 have HE := zh hE
 have HB := zh hB
 have HK := zh (ai hk hj)
 clear hk hj
 clear hm ho hE hB
 have d : decide ((4 : Int) < (a : Int)) = false := dqf (by omega)
 go_enter_defers func27, ntmps27
 go_wp2_with fail
 refine (next_any g ⟨35, 2, 0, bs []⟩ (k.flat ++ (j.flat ++ l)) o w HM.out).mono ?_
 rintro e w1 ⟨rfl, hk1, hm1⟩
 have H0 := zh (nwH (l := k.flat ++ (j.flat ++ l)) (o := o) hk1 hm1 42 #[.int .u8 35, .int .i64 2, .int .i64 0, .string (bs [])])
 clear hk1 hm1 HM
 go_wp2_with fail
 refine (width_is 35 4 rfl _).mono ?_
 rintro e w2 ⟨rfl, rfl⟩
 generalize w1.alloc _ = wa at *
 have c0 := H0.out.2.2.1.cell 0
 have c1 := H0.out.2.2.1.cell 1
 have c3 := H0.out.2.2.1.cell 3
 simp at c0 c1 c3
 go_wp2_with fail
 refine (HE.out k HK.out.1.1 HK.out.1.2 g 5 _ _ _ (by omega) H0.out.2.1 (by have := HL.out; (try simp only [lna, lnc, lnn] at this |-); omega)).mono ?_
 rintro e w3 ⟨rfl, hk, hm⟩
 have H3 := zh (kpH (l := j.flat ++ l) (o := o ++ sh k 5) H0.out hk hm (by decide))
 clear hk hm
 clear c0 c1 c3
 have c0 := H3.out.2.2.cell 0
 have c1 := H3.out.2.2.cell 1
 have c3 := H3.out.2.2.cell 3
 simp at c0 c1 c3
 go_wp2_with fail
 refine (between_any 35 g _ _ _ H3.out.2.1 (by have := HL.out; (try simp only [lna, lnc, lnn] at this |-); omega) (by omega)).mono ?_
 rintro e w4 ⟨rfl, hk, hm⟩
 have H4 : Hid (Kp g w w4 ∧ WrM w4 g (j.flat ++ l) ((o ++ sh k 5) ++ [midT 35]) ∧ Blk w4 w1.heap.size 42 #[.int .u8 35, .int .i64 2, .int .i64 0, .string (bs [])]) := zh ⟨H3.out.1.trans hk, hm, H3.out.2.2.kp hk H0.out.2.2.2 (by decide)⟩
 clear hk hm
 clear c0 c1 c3
 have c0 := H4.out.2.2.cell 0
 have c1 := H4.out.2.2.cell 1
 have c3 := H4.out.2.2.cell 3
 simp at c0 c1 c3
 go_wp2_with fail
 refine (HE.out j HK.out.2.1 HK.out.2.2 g 5 _ _ _ (by omega) H4.out.2.1 (by have := HL.out; (try simp only [lna, lnc, lnn] at this |-); omega)).mono ?_
 rintro e w5 ⟨rfl, hk, hm⟩
 have H5 : Hid (Kp g w w5 ∧ WrM w5 g (l) (((o ++ sh k 5) ++ [midT 35]) ++ sh j 5) ∧ Blk w5 w1.heap.size 42 #[.int .u8 35, .int .i64 2, .int .i64 0, .string (bs [])]) := zh ⟨H4.out.1.trans hk, hm, H4.out.2.2.kp hk H0.out.2.2.2 (by decide)⟩
 clear hk hm
 go_wp2_with fail
 refine ⟨_, results_none rfl _ _ _, rfl, H5.out.1, ?_⟩
 rw [HSH.out]
 have := H5.out.2.1
 simpa only [List.append_assoc] using this
theorem ex30 (N : Nat) (hE : ExprOk N) (hB : BlockOk N) (k j : Tr) (hk : Rt 0 k ∧ k.flat.length <= N) (hj : Rt 0 j ∧ j.flat.length <= N) (g a : Nat) (ha : a <= 1) (l : List Tw) (o : List Tz) (w : World) (hm : WrM w g ((Tr.flat (.node ⟨30, 2, 0, bs []⟩ [k, j])) ++ l) o) (ho : o.length + (sh (.node ⟨30, 2, 0, bs []⟩ [k, j]) a).length <= 1000000) :
 Calls prog 27 #[gp g, .int .i64 (a : Nat)] w (SPost w g l (o ++ sh (.node ⟨30, 2, 0, bs []⟩ [k, j]) a)) := by
 have HSH : Hid (sh (.node ⟨30, 2, 0, bs []⟩ [k, j]) a = sh k 1 ++ ([midT 30] ++ (sh j 2))) := zh (by
  rw [sh_expr _ _ (by omega), if_neg (by show ¬ width 30 < a; have : width 30 = 1 := rfl; omega)]
  rw [shs_map]; rfl)
 have HL : Hid (o.length + (sh k 1 ++ ([midT 30] ++ (sh j 2))).length <= 1000000) := zh (by rw [<- HSH.out]; exact ho)
 have HM : Hid (WrM w g (⟨30, 2, 0, bs []⟩ :: (k.flat ++ (j.flat ++ l))) o) := zh (by simpa [Tr.flat, flats] using hm)
 have HE := zh hE
 have HB := zh hB
 have HK := zh (ai hk hj)
 clear hk hj
 clear hm ho hE hB
 have d : decide ((1 : Int) < (a : Int)) = false := dqf (by omega)
 go_enter_defers func27, ntmps27
 go_wp2_with fail
 refine (next_any g ⟨30, 2, 0, bs []⟩ (k.flat ++ (j.flat ++ l)) o w HM.out).mono ?_
 rintro e w1 ⟨rfl, hk1, hm1⟩
 have H0 := zh (nwH (l := k.flat ++ (j.flat ++ l)) (o := o) hk1 hm1 42 #[.int .u8 30, .int .i64 2, .int .i64 0, .string (bs [])])
 clear hk1 hm1 HM
 go_wp2_with fail
 refine (width_is 30 1 rfl _).mono ?_
 rintro e w2 ⟨rfl, rfl⟩
 generalize w1.alloc _ = wa at *
 have c0 := H0.out.2.2.1.cell 0
 have c1 := H0.out.2.2.1.cell 1
 have c3 := H0.out.2.2.1.cell 3
 simp at c0 c1 c3
 go_wp2_with fail
 refine (HE.out k HK.out.1.1 HK.out.1.2 g 1 _ _ _ (by omega) H0.out.2.1 (by have := HL.out; (try simp only [lna, lnc, lnn] at this |-); omega)).mono ?_
 rintro e w3 ⟨rfl, hk, hm⟩
 have H3 := zh (kpH (l := j.flat ++ l) (o := o ++ sh k 1) H0.out hk hm (by decide))
 clear hk hm
 clear c0 c1 c3
 have c0 := H3.out.2.2.cell 0
 have c1 := H3.out.2.2.cell 1
 have c3 := H3.out.2.2.cell 3
 simp at c0 c1 c3
 go_wp2_with fail
 refine (between_any 30 g _ _ _ H3.out.2.1 (by have := HL.out; (try simp only [lna, lnc, lnn] at this |-); omega) (by omega)).mono ?_
 rintro e w4 ⟨rfl, hk, hm⟩
 have H4 : Hid (Kp g w w4 ∧ WrM w4 g (j.flat ++ l) ((o ++ sh k 1) ++ [midT 30]) ∧ Blk w4 w1.heap.size 42 #[.int .u8 30, .int .i64 2, .int .i64 0, .string (bs [])]) := zh ⟨H3.out.1.trans hk, hm, H3.out.2.2.kp hk H0.out.2.2.2 (by decide)⟩
 clear hk hm
 clear c0 c1 c3
 have c0 := H4.out.2.2.cell 0
 have c1 := H4.out.2.2.cell 1
 have c3 := H4.out.2.2.cell 3
 simp at c0 c1 c3
 go_wp2_with fail
 refine (HE.out j HK.out.2.1 HK.out.2.2 g 2 _ _ _ (by omega) H4.out.2.1 (by have := HL.out; (try simp only [lna, lnc, lnn] at this |-); omega)).mono ?_
 rintro e w5 ⟨rfl, hk, hm⟩
 have H5 : Hid (Kp g w w5 ∧ WrM w5 g (l) (((o ++ sh k 1) ++ [midT 30]) ++ sh j 2) ∧ Blk w5 w1.heap.size 42 #[.int .u8 30, .int .i64 2, .int .i64 0, .string (bs [])]) := zh ⟨H4.out.1.trans hk, hm, H4.out.2.2.kp hk H0.out.2.2.2 (by decide)⟩
 clear hk hm
 go_wp2_with fail
 refine ⟨_, results_none rfl _ _ _, rfl, H5.out.1, ?_⟩
 rw [HSH.out]
 have := H5.out.2.1
 simpa only [List.append_assoc] using this
theorem ex31 (N : Nat) (hE : ExprOk N) (hB : BlockOk N) (k j : Tr) (hk : Rt 0 k ∧ k.flat.length <= N) (hj : Rt 0 j ∧ j.flat.length <= N) (g a : Nat) (ha : a <= 2) (l : List Tw) (o : List Tz) (w : World) (hm : WrM w g ((Tr.flat (.node ⟨31, 2, 0, bs []⟩ [k, j])) ++ l) o) (ho : o.length + (sh (.node ⟨31, 2, 0, bs []⟩ [k, j]) a).length <= 1000000) :
 Calls prog 27 #[gp g, .int .i64 (a : Nat)] w (SPost w g l (o ++ sh (.node ⟨31, 2, 0, bs []⟩ [k, j]) a)) := by
 have HSH : Hid (sh (.node ⟨31, 2, 0, bs []⟩ [k, j]) a = sh k 2 ++ ([midT 31] ++ (sh j 3))) := zh (by
  rw [sh_expr _ _ (by omega), if_neg (by show ¬ width 31 < a; have : width 31 = 2 := rfl; omega)]
  rw [shs_map]; rfl)
 have HL : Hid (o.length + (sh k 2 ++ ([midT 31] ++ (sh j 3))).length <= 1000000) := zh (by rw [<- HSH.out]; exact ho)
 have HM : Hid (WrM w g (⟨31, 2, 0, bs []⟩ :: (k.flat ++ (j.flat ++ l))) o) := zh (by simpa [Tr.flat, flats] using hm)
 have HE := zh hE
 have HB := zh hB
 have HK := zh (ai hk hj)
 clear hk hj
 clear hm ho hE hB
 have d : decide ((2 : Int) < (a : Int)) = false := dqf (by omega)
 go_enter_defers func27, ntmps27
 go_wp2_with fail
 refine (next_any g ⟨31, 2, 0, bs []⟩ (k.flat ++ (j.flat ++ l)) o w HM.out).mono ?_
 rintro e w1 ⟨rfl, hk1, hm1⟩
 have H0 := zh (nwH (l := k.flat ++ (j.flat ++ l)) (o := o) hk1 hm1 42 #[.int .u8 31, .int .i64 2, .int .i64 0, .string (bs [])])
 clear hk1 hm1 HM
 go_wp2_with fail
 refine (width_is 31 2 rfl _).mono ?_
 rintro e w2 ⟨rfl, rfl⟩
 generalize w1.alloc _ = wa at *
 have c0 := H0.out.2.2.1.cell 0
 have c1 := H0.out.2.2.1.cell 1
 have c3 := H0.out.2.2.1.cell 3
 simp at c0 c1 c3
 go_wp2_with fail
 refine (HE.out k HK.out.1.1 HK.out.1.2 g 2 _ _ _ (by omega) H0.out.2.1 (by have := HL.out; (try simp only [lna, lnc, lnn] at this |-); omega)).mono ?_
 rintro e w3 ⟨rfl, hk, hm⟩
 have H3 := zh (kpH (l := j.flat ++ l) (o := o ++ sh k 2) H0.out hk hm (by decide))
 clear hk hm
 clear c0 c1 c3
 have c0 := H3.out.2.2.cell 0
 have c1 := H3.out.2.2.cell 1
 have c3 := H3.out.2.2.cell 3
 simp at c0 c1 c3
 go_wp2_with fail
 refine (between_any 31 g _ _ _ H3.out.2.1 (by have := HL.out; (try simp only [lna, lnc, lnn] at this |-); omega) (by omega)).mono ?_
 rintro e w4 ⟨rfl, hk, hm⟩
 have H4 : Hid (Kp g w w4 ∧ WrM w4 g (j.flat ++ l) ((o ++ sh k 2) ++ [midT 31]) ∧ Blk w4 w1.heap.size 42 #[.int .u8 31, .int .i64 2, .int .i64 0, .string (bs [])]) := zh ⟨H3.out.1.trans hk, hm, H3.out.2.2.kp hk H0.out.2.2.2 (by decide)⟩
 clear hk hm
 clear c0 c1 c3
 have c0 := H4.out.2.2.cell 0
 have c1 := H4.out.2.2.cell 1
 have c3 := H4.out.2.2.cell 3
 simp at c0 c1 c3
 go_wp2_with fail
 refine (HE.out j HK.out.2.1 HK.out.2.2 g 3 _ _ _ (by omega) H4.out.2.1 (by have := HL.out; (try simp only [lna, lnc, lnn] at this |-); omega)).mono ?_
 rintro e w5 ⟨rfl, hk, hm⟩
 have H5 : Hid (Kp g w w5 ∧ WrM w5 g (l) (((o ++ sh k 2) ++ [midT 31]) ++ sh j 3) ∧ Blk w5 w1.heap.size 42 #[.int .u8 31, .int .i64 2, .int .i64 0, .string (bs [])]) := zh ⟨H4.out.1.trans hk, hm, H4.out.2.2.kp hk H0.out.2.2.2 (by decide)⟩
 clear hk hm
 go_wp2_with fail
 refine ⟨_, results_none rfl _ _ _, rfl, H5.out.1, ?_⟩
 rw [HSH.out]
 have := H5.out.2.1
 simpa only [List.append_assoc] using this
theorem ex36 (N : Nat) (hE : ExprOk N) (hB : BlockOk N) (k j : Tr) (hk : Rt 0 k ∧ k.flat.length <= N) (hj : Rt 0 j ∧ j.flat.length <= N) (g a : Nat) (ha : a <= 5) (l : List Tw) (o : List Tz) (w : World) (hm : WrM w g ((Tr.flat (.node ⟨36, 2, 0, bs []⟩ [k, j])) ++ l) o) (ho : o.length + (sh (.node ⟨36, 2, 0, bs []⟩ [k, j]) a).length <= 1000000) :
 Calls prog 27 #[gp g, .int .i64 (a : Nat)] w (SPost w g l (o ++ sh (.node ⟨36, 2, 0, bs []⟩ [k, j]) a)) := by
 have HSH : Hid (sh (.node ⟨36, 2, 0, bs []⟩ [k, j]) a = sh k 5 ++ ([midT 36] ++ (sh j 6))) := zh (by
  rw [sh_expr _ _ (by omega), if_neg (by show ¬ width 36 < a; have : width 36 = 5 := rfl; omega)]
  rw [shs_map]; rfl)
 have HL : Hid (o.length + (sh k 5 ++ ([midT 36] ++ (sh j 6))).length <= 1000000) := zh (by rw [<- HSH.out]; exact ho)
 have HM : Hid (WrM w g (⟨36, 2, 0, bs []⟩ :: (k.flat ++ (j.flat ++ l))) o) := zh (by simpa [Tr.flat, flats] using hm)
 have HE := zh hE
 have HB := zh hB
 have HK := zh (ai hk hj)
 clear hk hj
 clear hm ho hE hB
 have d : decide ((5 : Int) < (a : Int)) = false := dqf (by omega)
 go_enter_defers func27, ntmps27
 go_wp2_with fail
 refine (next_any g ⟨36, 2, 0, bs []⟩ (k.flat ++ (j.flat ++ l)) o w HM.out).mono ?_
 rintro e w1 ⟨rfl, hk1, hm1⟩
 have H0 := zh (nwH (l := k.flat ++ (j.flat ++ l)) (o := o) hk1 hm1 42 #[.int .u8 36, .int .i64 2, .int .i64 0, .string (bs [])])
 clear hk1 hm1 HM
 go_wp2_with fail
 refine (width_is 36 5 rfl _).mono ?_
 rintro e w2 ⟨rfl, rfl⟩
 generalize w1.alloc _ = wa at *
 have c0 := H0.out.2.2.1.cell 0
 have c1 := H0.out.2.2.1.cell 1
 have c3 := H0.out.2.2.1.cell 3
 simp at c0 c1 c3
 go_wp2_with fail
 refine (HE.out k HK.out.1.1 HK.out.1.2 g 5 _ _ _ (by omega) H0.out.2.1 (by have := HL.out; (try simp only [lna, lnc, lnn] at this |-); omega)).mono ?_
 rintro e w3 ⟨rfl, hk, hm⟩
 have H3 := zh (kpH (l := j.flat ++ l) (o := o ++ sh k 5) H0.out hk hm (by decide))
 clear hk hm
 clear c0 c1 c3
 have c0 := H3.out.2.2.cell 0
 have c1 := H3.out.2.2.cell 1
 have c3 := H3.out.2.2.cell 3
 simp at c0 c1 c3
 go_wp2_with fail
 refine (between_any 36 g _ _ _ H3.out.2.1 (by have := HL.out; (try simp only [lna, lnc, lnn] at this |-); omega) (by omega)).mono ?_
 rintro e w4 ⟨rfl, hk, hm⟩
 have H4 : Hid (Kp g w w4 ∧ WrM w4 g (j.flat ++ l) ((o ++ sh k 5) ++ [midT 36]) ∧ Blk w4 w1.heap.size 42 #[.int .u8 36, .int .i64 2, .int .i64 0, .string (bs [])]) := zh ⟨H3.out.1.trans hk, hm, H3.out.2.2.kp hk H0.out.2.2.2 (by decide)⟩
 clear hk hm
 clear c0 c1 c3
 have c0 := H4.out.2.2.cell 0
 have c1 := H4.out.2.2.cell 1
 have c3 := H4.out.2.2.cell 3
 simp at c0 c1 c3
 go_wp2_with fail
 refine (HE.out j HK.out.2.1 HK.out.2.2 g 6 _ _ _ (by omega) H4.out.2.1 (by have := HL.out; (try simp only [lna, lnc, lnn] at this |-); omega)).mono ?_
 rintro e w5 ⟨rfl, hk, hm⟩
 have H5 : Hid (Kp g w w5 ∧ WrM w5 g (l) (((o ++ sh k 5) ++ [midT 36]) ++ sh j 6) ∧ Blk w5 w1.heap.size 42 #[.int .u8 36, .int .i64 2, .int .i64 0, .string (bs [])]) := zh ⟨H4.out.1.trans hk, hm, H4.out.2.2.kp hk H0.out.2.2.2 (by decide)⟩
 clear hk hm
 go_wp2_with fail
 refine ⟨_, results_none rfl _ _ _, rfl, H5.out.1, ?_⟩
 rw [HSH.out]
 have := H5.out.2.1
 simpa only [List.append_assoc] using this
theorem ex37 (N : Nat) (hE : ExprOk N) (hB : BlockOk N) (k j : Tr) (hk : Rt 0 k ∧ k.flat.length <= N) (hj : Rt 0 j ∧ j.flat.length <= N) (g a : Nat) (ha : a <= 5) (l : List Tw) (o : List Tz) (w : World) (hm : WrM w g ((Tr.flat (.node ⟨37, 2, 0, bs []⟩ [k, j])) ++ l) o) (ho : o.length + (sh (.node ⟨37, 2, 0, bs []⟩ [k, j]) a).length <= 1000000) :
 Calls prog 27 #[gp g, .int .i64 (a : Nat)] w (SPost w g l (o ++ sh (.node ⟨37, 2, 0, bs []⟩ [k, j]) a)) := by
 have HSH : Hid (sh (.node ⟨37, 2, 0, bs []⟩ [k, j]) a = sh k 5 ++ ([midT 37] ++ (sh j 6))) := zh (by
  rw [sh_expr _ _ (by omega), if_neg (by show ¬ width 37 < a; have : width 37 = 5 := rfl; omega)]
  rw [shs_map]; rfl)
 have HL : Hid (o.length + (sh k 5 ++ ([midT 37] ++ (sh j 6))).length <= 1000000) := zh (by rw [<- HSH.out]; exact ho)
 have HM : Hid (WrM w g (⟨37, 2, 0, bs []⟩ :: (k.flat ++ (j.flat ++ l))) o) := zh (by simpa [Tr.flat, flats] using hm)
 have HE := zh hE
 have HB := zh hB
 have HK := zh (ai hk hj)
 clear hk hj
 clear hm ho hE hB
 have d : decide ((5 : Int) < (a : Int)) = false := dqf (by omega)
 go_enter_defers func27, ntmps27
 go_wp2_with fail
 refine (next_any g ⟨37, 2, 0, bs []⟩ (k.flat ++ (j.flat ++ l)) o w HM.out).mono ?_
 rintro e w1 ⟨rfl, hk1, hm1⟩
 have H0 := zh (nwH (l := k.flat ++ (j.flat ++ l)) (o := o) hk1 hm1 42 #[.int .u8 37, .int .i64 2, .int .i64 0, .string (bs [])])
 clear hk1 hm1 HM
 go_wp2_with fail
 refine (width_is 37 5 rfl _).mono ?_
 rintro e w2 ⟨rfl, rfl⟩
 generalize w1.alloc _ = wa at *
 have c0 := H0.out.2.2.1.cell 0
 have c1 := H0.out.2.2.1.cell 1
 have c3 := H0.out.2.2.1.cell 3
 simp at c0 c1 c3
 go_wp2_with fail
 refine (HE.out k HK.out.1.1 HK.out.1.2 g 5 _ _ _ (by omega) H0.out.2.1 (by have := HL.out; (try simp only [lna, lnc, lnn] at this |-); omega)).mono ?_
 rintro e w3 ⟨rfl, hk, hm⟩
 have H3 := zh (kpH (l := j.flat ++ l) (o := o ++ sh k 5) H0.out hk hm (by decide))
 clear hk hm
 clear c0 c1 c3
 have c0 := H3.out.2.2.cell 0
 have c1 := H3.out.2.2.cell 1
 have c3 := H3.out.2.2.cell 3
 simp at c0 c1 c3
 go_wp2_with fail
 refine (between_any 37 g _ _ _ H3.out.2.1 (by have := HL.out; (try simp only [lna, lnc, lnn] at this |-); omega) (by omega)).mono ?_
 rintro e w4 ⟨rfl, hk, hm⟩
 have H4 : Hid (Kp g w w4 ∧ WrM w4 g (j.flat ++ l) ((o ++ sh k 5) ++ [midT 37]) ∧ Blk w4 w1.heap.size 42 #[.int .u8 37, .int .i64 2, .int .i64 0, .string (bs [])]) := zh ⟨H3.out.1.trans hk, hm, H3.out.2.2.kp hk H0.out.2.2.2 (by decide)⟩
 clear hk hm
 clear c0 c1 c3
 have c0 := H4.out.2.2.cell 0
 have c1 := H4.out.2.2.cell 1
 have c3 := H4.out.2.2.cell 3
 simp at c0 c1 c3
 go_wp2_with fail
 refine (HE.out j HK.out.2.1 HK.out.2.2 g 6 _ _ _ (by omega) H4.out.2.1 (by have := HL.out; (try simp only [lna, lnc, lnn] at this |-); omega)).mono ?_
 rintro e w5 ⟨rfl, hk, hm⟩
 have H5 : Hid (Kp g w w5 ∧ WrM w5 g (l) (((o ++ sh k 5) ++ [midT 37]) ++ sh j 6) ∧ Blk w5 w1.heap.size 42 #[.int .u8 37, .int .i64 2, .int .i64 0, .string (bs [])]) := zh ⟨H4.out.1.trans hk, hm, H4.out.2.2.kp hk H0.out.2.2.2 (by decide)⟩
 clear hk hm
 go_wp2_with fail
 refine ⟨_, results_none rfl _ _ _, rfl, H5.out.1, ?_⟩
 rw [HSH.out]
 have := H5.out.2.1
 simpa only [List.append_assoc] using this
theorem ex38 (N : Nat) (hE : ExprOk N) (hB : BlockOk N) (k j : Tr) (hk : Rt 0 k ∧ k.flat.length <= N) (hj : Rt 0 j ∧ j.flat.length <= N) (g a : Nat) (ha : a <= 6) (l : List Tw) (o : List Tz) (w : World) (hm : WrM w g ((Tr.flat (.node ⟨38, 2, 0, bs []⟩ [k, j])) ++ l) o) (ho : o.length + (sh (.node ⟨38, 2, 0, bs []⟩ [k, j]) a).length <= 1000000) :
 Calls prog 27 #[gp g, .int .i64 (a : Nat)] w (SPost w g l (o ++ sh (.node ⟨38, 2, 0, bs []⟩ [k, j]) a)) := by
 have HSH : Hid (sh (.node ⟨38, 2, 0, bs []⟩ [k, j]) a = sh k 6 ++ ([midT 38] ++ (sh j 7))) := zh (by
  rw [sh_expr _ _ (by omega), if_neg (by show ¬ width 38 < a; have : width 38 = 6 := rfl; omega)]
  rw [shs_map]; rfl)
 have HL : Hid (o.length + (sh k 6 ++ ([midT 38] ++ (sh j 7))).length <= 1000000) := zh (by rw [<- HSH.out]; exact ho)
 have HM : Hid (WrM w g (⟨38, 2, 0, bs []⟩ :: (k.flat ++ (j.flat ++ l))) o) := zh (by simpa [Tr.flat, flats] using hm)
 have HE := zh hE
 have HB := zh hB
 have HK := zh (ai hk hj)
 clear hk hj
 clear hm ho hE hB
 have d : decide ((6 : Int) < (a : Int)) = false := dqf (by omega)
 go_enter_defers func27, ntmps27
 go_wp2_with fail
 refine (next_any g ⟨38, 2, 0, bs []⟩ (k.flat ++ (j.flat ++ l)) o w HM.out).mono ?_
 rintro e w1 ⟨rfl, hk1, hm1⟩
 have H0 := zh (nwH (l := k.flat ++ (j.flat ++ l)) (o := o) hk1 hm1 42 #[.int .u8 38, .int .i64 2, .int .i64 0, .string (bs [])])
 clear hk1 hm1 HM
 go_wp2_with fail
 refine (width_is 38 6 rfl _).mono ?_
 rintro e w2 ⟨rfl, rfl⟩
 generalize w1.alloc _ = wa at *
 have c0 := H0.out.2.2.1.cell 0
 have c1 := H0.out.2.2.1.cell 1
 have c3 := H0.out.2.2.1.cell 3
 simp at c0 c1 c3
 go_wp2_with fail
 refine (HE.out k HK.out.1.1 HK.out.1.2 g 6 _ _ _ (by omega) H0.out.2.1 (by have := HL.out; (try simp only [lna, lnc, lnn] at this |-); omega)).mono ?_
 rintro e w3 ⟨rfl, hk, hm⟩
 have H3 := zh (kpH (l := j.flat ++ l) (o := o ++ sh k 6) H0.out hk hm (by decide))
 clear hk hm
 clear c0 c1 c3
 have c0 := H3.out.2.2.cell 0
 have c1 := H3.out.2.2.cell 1
 have c3 := H3.out.2.2.cell 3
 simp at c0 c1 c3
 go_wp2_with fail
 refine (between_any 38 g _ _ _ H3.out.2.1 (by have := HL.out; (try simp only [lna, lnc, lnn] at this |-); omega) (by omega)).mono ?_
 rintro e w4 ⟨rfl, hk, hm⟩
 have H4 : Hid (Kp g w w4 ∧ WrM w4 g (j.flat ++ l) ((o ++ sh k 6) ++ [midT 38]) ∧ Blk w4 w1.heap.size 42 #[.int .u8 38, .int .i64 2, .int .i64 0, .string (bs [])]) := zh ⟨H3.out.1.trans hk, hm, H3.out.2.2.kp hk H0.out.2.2.2 (by decide)⟩
 clear hk hm
 clear c0 c1 c3
 have c0 := H4.out.2.2.cell 0
 have c1 := H4.out.2.2.cell 1
 have c3 := H4.out.2.2.cell 3
 simp at c0 c1 c3
 go_wp2_with fail
 refine (HE.out j HK.out.2.1 HK.out.2.2 g 7 _ _ _ (by omega) H4.out.2.1 (by have := HL.out; (try simp only [lna, lnc, lnn] at this |-); omega)).mono ?_
 rintro e w5 ⟨rfl, hk, hm⟩
 have H5 : Hid (Kp g w w5 ∧ WrM w5 g (l) (((o ++ sh k 6) ++ [midT 38]) ++ sh j 7) ∧ Blk w5 w1.heap.size 42 #[.int .u8 38, .int .i64 2, .int .i64 0, .string (bs [])]) := zh ⟨H4.out.1.trans hk, hm, H4.out.2.2.kp hk H0.out.2.2.2 (by decide)⟩
 clear hk hm
 go_wp2_with fail
 refine ⟨_, results_none rfl _ _ _, rfl, H5.out.1, ?_⟩
 rw [HSH.out]
 have := H5.out.2.1
 simpa only [List.append_assoc] using this
theorem ex39 (N : Nat) (hE : ExprOk N) (hB : BlockOk N) (k j : Tr) (hk : Rt 0 k ∧ k.flat.length <= N) (hj : Rt 0 j ∧ j.flat.length <= N) (g a : Nat) (ha : a <= 6) (l : List Tw) (o : List Tz) (w : World) (hm : WrM w g ((Tr.flat (.node ⟨39, 2, 0, bs []⟩ [k, j])) ++ l) o) (ho : o.length + (sh (.node ⟨39, 2, 0, bs []⟩ [k, j]) a).length <= 1000000) :
 Calls prog 27 #[gp g, .int .i64 (a : Nat)] w (SPost w g l (o ++ sh (.node ⟨39, 2, 0, bs []⟩ [k, j]) a)) := by
 have HSH : Hid (sh (.node ⟨39, 2, 0, bs []⟩ [k, j]) a = sh k 6 ++ ([midT 39] ++ (sh j 7))) := zh (by
  rw [sh_expr _ _ (by omega), if_neg (by show ¬ width 39 < a; have : width 39 = 6 := rfl; omega)]
  rw [shs_map]; rfl)
 have HL : Hid (o.length + (sh k 6 ++ ([midT 39] ++ (sh j 7))).length <= 1000000) := zh (by rw [<- HSH.out]; exact ho)
 have HM : Hid (WrM w g (⟨39, 2, 0, bs []⟩ :: (k.flat ++ (j.flat ++ l))) o) := zh (by simpa [Tr.flat, flats] using hm)
 have HE := zh hE
 have HB := zh hB
 have HK := zh (ai hk hj)
 clear hk hj
 clear hm ho hE hB
 have d : decide ((6 : Int) < (a : Int)) = false := dqf (by omega)
 go_enter_defers func27, ntmps27
 go_wp2_with fail
 refine (next_any g ⟨39, 2, 0, bs []⟩ (k.flat ++ (j.flat ++ l)) o w HM.out).mono ?_
 rintro e w1 ⟨rfl, hk1, hm1⟩
 have H0 := zh (nwH (l := k.flat ++ (j.flat ++ l)) (o := o) hk1 hm1 42 #[.int .u8 39, .int .i64 2, .int .i64 0, .string (bs [])])
 clear hk1 hm1 HM
 go_wp2_with fail
 refine (width_is 39 6 rfl _).mono ?_
 rintro e w2 ⟨rfl, rfl⟩
 generalize w1.alloc _ = wa at *
 have c0 := H0.out.2.2.1.cell 0
 have c1 := H0.out.2.2.1.cell 1
 have c3 := H0.out.2.2.1.cell 3
 simp at c0 c1 c3
 go_wp2_with fail
 refine (HE.out k HK.out.1.1 HK.out.1.2 g 6 _ _ _ (by omega) H0.out.2.1 (by have := HL.out; (try simp only [lna, lnc, lnn] at this |-); omega)).mono ?_
 rintro e w3 ⟨rfl, hk, hm⟩
 have H3 := zh (kpH (l := j.flat ++ l) (o := o ++ sh k 6) H0.out hk hm (by decide))
 clear hk hm
 clear c0 c1 c3
 have c0 := H3.out.2.2.cell 0
 have c1 := H3.out.2.2.cell 1
 have c3 := H3.out.2.2.cell 3
 simp at c0 c1 c3
 go_wp2_with fail
 refine (between_any 39 g _ _ _ H3.out.2.1 (by have := HL.out; (try simp only [lna, lnc, lnn] at this |-); omega) (by omega)).mono ?_
 rintro e w4 ⟨rfl, hk, hm⟩
 have H4 : Hid (Kp g w w4 ∧ WrM w4 g (j.flat ++ l) ((o ++ sh k 6) ++ [midT 39]) ∧ Blk w4 w1.heap.size 42 #[.int .u8 39, .int .i64 2, .int .i64 0, .string (bs [])]) := zh ⟨H3.out.1.trans hk, hm, H3.out.2.2.kp hk H0.out.2.2.2 (by decide)⟩
 clear hk hm
 clear c0 c1 c3
 have c0 := H4.out.2.2.cell 0
 have c1 := H4.out.2.2.cell 1
 have c3 := H4.out.2.2.cell 3
 simp at c0 c1 c3
 go_wp2_with fail
 refine (HE.out j HK.out.2.1 HK.out.2.2 g 7 _ _ _ (by omega) H4.out.2.1 (by have := HL.out; (try simp only [lna, lnc, lnn] at this |-); omega)).mono ?_
 rintro e w5 ⟨rfl, hk, hm⟩
 have H5 : Hid (Kp g w w5 ∧ WrM w5 g (l) (((o ++ sh k 6) ++ [midT 39]) ++ sh j 7) ∧ Blk w5 w1.heap.size 42 #[.int .u8 39, .int .i64 2, .int .i64 0, .string (bs [])]) := zh ⟨H4.out.1.trans hk, hm, H4.out.2.2.kp hk H0.out.2.2.2 (by decide)⟩
 clear hk hm
 go_wp2_with fail
 refine ⟨_, results_none rfl _ _ _, rfl, H5.out.1, ?_⟩
 rw [HSH.out]
 have := H5.out.2.1
 simpa only [List.append_assoc] using this
theorem ex40 (N : Nat) (hE : ExprOk N) (hB : BlockOk N) (k j : Tr) (hk : Rt 0 k ∧ k.flat.length <= N) (hj : Rt 0 j ∧ j.flat.length <= N) (g a : Nat) (ha : a <= 6) (l : List Tw) (o : List Tz) (w : World) (hm : WrM w g ((Tr.flat (.node ⟨40, 2, 0, bs []⟩ [k, j])) ++ l) o) (ho : o.length + (sh (.node ⟨40, 2, 0, bs []⟩ [k, j]) a).length <= 1000000) :
 Calls prog 27 #[gp g, .int .i64 (a : Nat)] w (SPost w g l (o ++ sh (.node ⟨40, 2, 0, bs []⟩ [k, j]) a)) := by
 have HSH : Hid (sh (.node ⟨40, 2, 0, bs []⟩ [k, j]) a = sh k 6 ++ ([midT 40] ++ (sh j 7))) := zh (by
  rw [sh_expr _ _ (by omega), if_neg (by show ¬ width 40 < a; have : width 40 = 6 := rfl; omega)]
  rw [shs_map]; rfl)
 have HL : Hid (o.length + (sh k 6 ++ ([midT 40] ++ (sh j 7))).length <= 1000000) := zh (by rw [<- HSH.out]; exact ho)
 have HM : Hid (WrM w g (⟨40, 2, 0, bs []⟩ :: (k.flat ++ (j.flat ++ l))) o) := zh (by simpa [Tr.flat, flats] using hm)
 have HE := zh hE
 have HB := zh hB
 have HK := zh (ai hk hj)
 clear hk hj
 clear hm ho hE hB
 have d : decide ((6 : Int) < (a : Int)) = false := dqf (by omega)
 go_enter_defers func27, ntmps27
 go_wp2_with fail
 refine (next_any g ⟨40, 2, 0, bs []⟩ (k.flat ++ (j.flat ++ l)) o w HM.out).mono ?_
 rintro e w1 ⟨rfl, hk1, hm1⟩
 have H0 := zh (nwH (l := k.flat ++ (j.flat ++ l)) (o := o) hk1 hm1 42 #[.int .u8 40, .int .i64 2, .int .i64 0, .string (bs [])])
 clear hk1 hm1 HM
 go_wp2_with fail
 refine (width_is 40 6 rfl _).mono ?_
 rintro e w2 ⟨rfl, rfl⟩
 generalize w1.alloc _ = wa at *
 have c0 := H0.out.2.2.1.cell 0
 have c1 := H0.out.2.2.1.cell 1
 have c3 := H0.out.2.2.1.cell 3
 simp at c0 c1 c3
 go_wp2_with fail
 refine (HE.out k HK.out.1.1 HK.out.1.2 g 6 _ _ _ (by omega) H0.out.2.1 (by have := HL.out; (try simp only [lna, lnc, lnn] at this |-); omega)).mono ?_
 rintro e w3 ⟨rfl, hk, hm⟩
 have H3 := zh (kpH (l := j.flat ++ l) (o := o ++ sh k 6) H0.out hk hm (by decide))
 clear hk hm
 clear c0 c1 c3
 have c0 := H3.out.2.2.cell 0
 have c1 := H3.out.2.2.cell 1
 have c3 := H3.out.2.2.cell 3
 simp at c0 c1 c3
 go_wp2_with fail
 refine (between_any 40 g _ _ _ H3.out.2.1 (by have := HL.out; (try simp only [lna, lnc, lnn] at this |-); omega) (by omega)).mono ?_
 rintro e w4 ⟨rfl, hk, hm⟩
 have H4 : Hid (Kp g w w4 ∧ WrM w4 g (j.flat ++ l) ((o ++ sh k 6) ++ [midT 40]) ∧ Blk w4 w1.heap.size 42 #[.int .u8 40, .int .i64 2, .int .i64 0, .string (bs [])]) := zh ⟨H3.out.1.trans hk, hm, H3.out.2.2.kp hk H0.out.2.2.2 (by decide)⟩
 clear hk hm
 clear c0 c1 c3
 have c0 := H4.out.2.2.cell 0
 have c1 := H4.out.2.2.cell 1
 have c3 := H4.out.2.2.cell 3
 simp at c0 c1 c3
 go_wp2_with fail
 refine (HE.out j HK.out.2.1 HK.out.2.2 g 7 _ _ _ (by omega) H4.out.2.1 (by have := HL.out; (try simp only [lna, lnc, lnn] at this |-); omega)).mono ?_
 rintro e w5 ⟨rfl, hk, hm⟩
 have H5 : Hid (Kp g w w5 ∧ WrM w5 g (l) (((o ++ sh k 6) ++ [midT 40]) ++ sh j 7) ∧ Blk w5 w1.heap.size 42 #[.int .u8 40, .int .i64 2, .int .i64 0, .string (bs [])]) := zh ⟨H4.out.1.trans hk, hm, H4.out.2.2.kp hk H0.out.2.2.2 (by decide)⟩
 clear hk hm
 go_wp2_with fail
 refine ⟨_, results_none rfl _ _ _, rfl, H5.out.1, ?_⟩
 rw [HSH.out]
 have := H5.out.2.1
 simpa only [List.append_assoc] using this
theorem ex43b (N : Nat) (hE : ExprOk N) (hB : BlockOk N) (k : Tr) (hk : Rt 0 k ∧ k.flat.length <= N) (g a : Nat) (ha : 3 < a) (ha9 : a <= 9) (l : List Tw) (o : List Tz) (w : World) (hm : WrM w g ((Tr.flat (.node ⟨43, 1, 0, bs []⟩ [k])) ++ l) o) (ho : o.length + (sh (.node ⟨43, 1, 0, bs []⟩ [k]) a).length <= 1000000) :
 Calls prog 27 #[gp g, .int .i64 (a : Nat)] w (SPost w g l (o ++ sh (.node ⟨43, 1, 0, bs []⟩ [k]) a)) := by
 have HSH : Hid (sh (.node ⟨43, 1, 0, bs []⟩ [k]) a = [sg [40]] ++ ([wd [110, 111, 116]] ++ (sh k 3) ++ [sg [41]])) := zh (by
  rw [sh_expr _ _ (by omega), if_pos (by show  width 43 < a; have : width 43 = 3 := rfl; omega)]
  rw [shs_map]; rfl)
 have HL : Hid (o.length + ([sg [40]] ++ ([wd [110, 111, 116]] ++ (sh k 3) ++ [sg [41]])).length <= 1000000) := zh (by rw [<- HSH.out]; exact ho)
 have HM : Hid (WrM w g (⟨43, 1, 0, bs []⟩ :: (k.flat ++ l)) o) := zh (by simpa [Tr.flat, flats] using hm)
 have HE := zh hE
 have HB := zh hB
 have HK := zh hk
 clear hk
 clear hm ho hE hB
 have d : decide ((3 : Int) < (a : Int)) = true := dqt (by omega)
 go_enter_defers func27, ntmps27
 go_wp2_with fail
 refine (next_any g ⟨43, 1, 0, bs []⟩ (k.flat ++ l) o w HM.out).mono ?_
 rintro e w1 ⟨rfl, hk1, hm1⟩
 have H0 := zh (nwH (l := k.flat ++ l) (o := o) hk1 hm1 42 #[.int .u8 43, .int .i64 1, .int .i64 0, .string (bs [])])
 clear hk1 hm1 HM
 go_wp2_with fail
 refine (width_is 43 3 rfl _).mono ?_
 rintro e w2 ⟨rfl, rfl⟩
 generalize w1.alloc _ = wa at *
 have c0 := H0.out.2.2.1.cell 0
 have c1 := H0.out.2.2.1.cell 1
 have c3 := H0.out.2.2.1.cell 3
 simp at c0 c1 c3
 go_wp2_with fail
 refine (sign1 (bs [40]) H0.out.2.1 (by have := HL.out; (try simp only [lna, lnc, lnn] at this |-); omega)).mono ?_
 rintro e w3 ⟨rfl, hk3, hm3⟩
 have H3 := zh (nwI (l := k.flat ++ l) (o := o ++ [sg [40]]) H0.out hk3 hm3 (by decide) #[.string ⟨#[41]⟩] #[.string (bs [41])] rfl)
 have HB3 : Hid (Blk w3 w1.heap.size 42 #[.int .u8 43, .int .i64 1, .int .i64 0, .string (bs [])]) := zh (H0.out.2.2.1.kp hk3 H0.out.2.2.2 (by decide))
 clear hk3 hm3 c0 c1 c3
 have hlt3 := HB3.out.lt
 have c0 := HB3.out.cell 0
 have c1 := HB3.out.cell 1
 have c3 := HB3.out.cell 3
 simp at c0 c1 c3
 go_upto_region 5 with fail
 generalize w3.alloc _ = wb at *
 clear c0 c1 c3 hlt3
 have c0 := H3.out.2.2.1.cell 0
 have c1 := H3.out.2.2.1.cell 1
 have c3 := H3.out.2.2.1.cell 3
 simp at c0 c1 c3
 go_wp2_with fail
 refine (word1 (bs [110, 111, 116]) H3.out.2.1 (by have := HL.out; (try simp only [lna, lnc, lnn] at this |-); omega)).mono ?_
 rintro e w4 ⟨rfl, hk, hm⟩
 have H4 : Hid (Kp g w w4 ∧ WrM w4 g (k.flat ++ l) ((o ++ [sg [40]]) ++ [wd [110, 111, 116]]) ∧ Blk w4 w1.heap.size 42 #[.int .u8 43, .int .i64 1, .int .i64 0, .string (bs [])] ∧ Blk w4 w3.heap.size 9 #[.string (bs [41])]) := zh ⟨H3.out.1.trans hk, hm, H3.out.2.2.1.kp hk H0.out.2.2.2 (by decide), H3.out.2.2.2.1.kp hk H3.out.2.2.2.2 (by decide)⟩
 clear hk hm
 clear c0 c1 c3
 have c0 := H4.out.2.2.1.cell 0
 have c1 := H4.out.2.2.1.cell 1
 have c3 := H4.out.2.2.1.cell 3
 simp at c0 c1 c3
 go_wp2_with fail
 refine (HE.out k HK.out.1 HK.out.2 g 3 _ _ _ (by omega) H4.out.2.1 (by have := HL.out; (try simp only [lna, lnc, lnn] at this |-); omega)).mono ?_
 rintro e w5 ⟨rfl, hk, hm⟩
 have H5 : Hid (Kp g w w5 ∧ WrM w5 g (l) (((o ++ [sg [40]]) ++ [wd [110, 111, 116]]) ++ sh k 3) ∧ Blk w5 w1.heap.size 42 #[.int .u8 43, .int .i64 1, .int .i64 0, .string (bs [])] ∧ Blk w5 w3.heap.size 9 #[.string (bs [41])]) := zh ⟨H4.out.1.trans hk, hm, H4.out.2.2.1.kp hk H0.out.2.2.2 (by decide), H4.out.2.2.2.kp hk H3.out.2.2.2.2 (by decide)⟩
 clear hk hm
 go_wp2_with fail
 refine leaves_cons (f := 56) (args := #[gp g, .slice (some ⟨w3.heap.size, 0, none⟩) 1 1]) (by simp) (by simp [go_sem]) ?_
 refine (sign1_d w3.heap.size (bs [41]) .returning H5.out.2.1 H5.out.2.2.2 H3.out.2.2.2.2 (by have := HL.out; (try simp only [lna, lnc, lnn] at this |-); omega)).mono ?_
 rintro e u' w9 ⟨rfl, rfl, hk9, hm9⟩
 refine ⟨_, results_none rfl _ _ _, rfl, H5.out.1.trans hk9, ?_⟩
 rw [HSH.out]
 simpa only [List.append_assoc, sgB_sg] using hm9
theorem ex44b (N : Nat) (hE : ExprOk N) (hB : BlockOk N) (k : Tr) (hk : Rt 0 k ∧ k.flat.length <= N) (g a : Nat) (ha : 7 < a) (ha9 : a <= 9) (l : List Tw) (o : List Tz) (w : World) (hm : WrM w g ((Tr.flat (.node ⟨44, 1, 0, bs []⟩ [k])) ++ l) o) (ho : o.length + (sh (.node ⟨44, 1, 0, bs []⟩ [k]) a).length <= 1000000) :
 Calls prog 27 #[gp g, .int .i64 (a : Nat)] w (SPost w g l (o ++ sh (.node ⟨44, 1, 0, bs []⟩ [k]) a)) := by
 have HSH : Hid (sh (.node ⟨44, 1, 0, bs []⟩ [k]) a = [sg [40]] ++ ([sg [45]] ++ (sh k 7) ++ [sg [41]])) := zh (by
  rw [sh_expr _ _ (by omega), if_pos (by show  width 44 < a; have : width 44 = 7 := rfl; omega)]
  rw [shs_map]; rfl)
 have HL : Hid (o.length + ([sg [40]] ++ ([sg [45]] ++ (sh k 7) ++ [sg [41]])).length <= 1000000) := zh (by rw [<- HSH.out]; exact ho)
 have HM : Hid (WrM w g (⟨44, 1, 0, bs []⟩ :: (k.flat ++ l)) o) := zh (by simpa [Tr.flat, flats] using hm)
 have HE := zh hE
 have HB := zh hB
 have HK := zh hk
 clear hk
 clear hm ho hE hB
 have d : decide ((7 : Int) < (a : Int)) = true := dqt (by omega)
 go_enter_defers func27, ntmps27
 go_wp2_with fail
 refine (next_any g ⟨44, 1, 0, bs []⟩ (k.flat ++ l) o w HM.out).mono ?_
 rintro e w1 ⟨rfl, hk1, hm1⟩
 have H0 := zh (nwH (l := k.flat ++ l) (o := o) hk1 hm1 42 #[.int .u8 44, .int .i64 1, .int .i64 0, .string (bs [])])
 clear hk1 hm1 HM
 go_wp2_with fail
 refine (width_is 44 7 rfl _).mono ?_
 rintro e w2 ⟨rfl, rfl⟩
 generalize w1.alloc _ = wa at *
 have c0 := H0.out.2.2.1.cell 0
 have c1 := H0.out.2.2.1.cell 1
 have c3 := H0.out.2.2.1.cell 3
 simp at c0 c1 c3
 go_wp2_with fail
 refine (sign1 (bs [40]) H0.out.2.1 (by have := HL.out; (try simp only [lna, lnc, lnn] at this |-); omega)).mono ?_
 rintro e w3 ⟨rfl, hk3, hm3⟩
 have H3 := zh (nwI (l := k.flat ++ l) (o := o ++ [sg [40]]) H0.out hk3 hm3 (by decide) #[.string ⟨#[41]⟩] #[.string (bs [41])] rfl)
 have HB3 : Hid (Blk w3 w1.heap.size 42 #[.int .u8 44, .int .i64 1, .int .i64 0, .string (bs [])]) := zh (H0.out.2.2.1.kp hk3 H0.out.2.2.2 (by decide))
 clear hk3 hm3 c0 c1 c3
 have hlt3 := HB3.out.lt
 have c0 := HB3.out.cell 0
 have c1 := HB3.out.cell 1
 have c3 := HB3.out.cell 3
 simp at c0 c1 c3
 go_upto_region 5 with fail
 generalize w3.alloc _ = wb at *
 clear c0 c1 c3 hlt3
 have c0 := H3.out.2.2.1.cell 0
 have c1 := H3.out.2.2.1.cell 1
 have c3 := H3.out.2.2.1.cell 3
 simp at c0 c1 c3
 go_wp2_with fail
 refine (sign1 (bs [45]) H3.out.2.1 (by have := HL.out; (try simp only [lna, lnc, lnn] at this |-); omega)).mono ?_
 rintro e w4 ⟨rfl, hk, hm⟩
 have H4 : Hid (Kp g w w4 ∧ WrM w4 g (k.flat ++ l) ((o ++ [sg [40]]) ++ [sg [45]]) ∧ Blk w4 w1.heap.size 42 #[.int .u8 44, .int .i64 1, .int .i64 0, .string (bs [])] ∧ Blk w4 w3.heap.size 9 #[.string (bs [41])]) := zh ⟨H3.out.1.trans hk, hm, H3.out.2.2.1.kp hk H0.out.2.2.2 (by decide), H3.out.2.2.2.1.kp hk H3.out.2.2.2.2 (by decide)⟩
 clear hk hm
 clear c0 c1 c3
 have c0 := H4.out.2.2.1.cell 0
 have c1 := H4.out.2.2.1.cell 1
 have c3 := H4.out.2.2.1.cell 3
 simp at c0 c1 c3
 go_wp2_with fail
 refine (HE.out k HK.out.1 HK.out.2 g 7 _ _ _ (by omega) H4.out.2.1 (by have := HL.out; (try simp only [lna, lnc, lnn] at this |-); omega)).mono ?_
 rintro e w5 ⟨rfl, hk, hm⟩
 have H5 : Hid (Kp g w w5 ∧ WrM w5 g (l) (((o ++ [sg [40]]) ++ [sg [45]]) ++ sh k 7) ∧ Blk w5 w1.heap.size 42 #[.int .u8 44, .int .i64 1, .int .i64 0, .string (bs [])] ∧ Blk w5 w3.heap.size 9 #[.string (bs [41])]) := zh ⟨H4.out.1.trans hk, hm, H4.out.2.2.1.kp hk H0.out.2.2.2 (by decide), H4.out.2.2.2.kp hk H3.out.2.2.2.2 (by decide)⟩
 clear hk hm
 go_wp2_with fail
 refine leaves_cons (f := 56) (args := #[gp g, .slice (some ⟨w3.heap.size, 0, none⟩) 1 1]) (by simp) (by simp [go_sem]) ?_
 refine (sign1_d w3.heap.size (bs [41]) .returning H5.out.2.1 H5.out.2.2.2 H3.out.2.2.2.2 (by have := HL.out; (try simp only [lna, lnc, lnn] at this |-); omega)).mono ?_
 rintro e u' w9 ⟨rfl, rfl, hk9, hm9⟩
 refine ⟨_, results_none rfl _ _ _, rfl, H5.out.1.trans hk9, ?_⟩
 rw [HSH.out]
 simpa only [List.append_assoc, sgB_sg] using hm9
theorem ex54b (N : Nat) (hE : ExprOk N) (hB : BlockOk N) (k : Tr) (hk : Rt 0 k ∧ k.flat.length <= N) (g a : Nat) (ha : 7 < a) (ha9 : a <= 9) (l : List Tw) (o : List Tz) (w : World) (hm : WrM w g ((Tr.flat (.node ⟨54, 1, 0, bs []⟩ [k])) ++ l) o) (ho : o.length + (sh (.node ⟨54, 1, 0, bs []⟩ [k]) a).length <= 1000000) :
 Calls prog 27 #[gp g, .int .i64 (a : Nat)] w (SPost w g l (o ++ sh (.node ⟨54, 1, 0, bs []⟩ [k]) a)) := by
 have HSH : Hid (sh (.node ⟨54, 1, 0, bs []⟩ [k]) a = [sg [40]] ++ ([wd [97, 119, 97, 105, 116]] ++ (sh k 7) ++ [sg [41]])) := zh (by
  rw [sh_expr _ _ (by omega), if_pos (by show  width 54 < a; have : width 54 = 7 := rfl; omega)]
  rw [shs_map]; rfl)
 have HL : Hid (o.length + ([sg [40]] ++ ([wd [97, 119, 97, 105, 116]] ++ (sh k 7) ++ [sg [41]])).length <= 1000000) := zh (by rw [<- HSH.out]; exact ho)
 have HM : Hid (WrM w g (⟨54, 1, 0, bs []⟩ :: (k.flat ++ l)) o) := zh (by simpa [Tr.flat, flats] using hm)
 have HE := zh hE
 have HB := zh hB
 have HK := zh hk
 clear hk
 clear hm ho hE hB
 have d : decide ((7 : Int) < (a : Int)) = true := dqt (by omega)
 go_enter_defers func27, ntmps27
 go_wp2_with fail
 refine (next_any g ⟨54, 1, 0, bs []⟩ (k.flat ++ l) o w HM.out).mono ?_
 rintro e w1 ⟨rfl, hk1, hm1⟩
 have H0 := zh (nwH (l := k.flat ++ l) (o := o) hk1 hm1 42 #[.int .u8 54, .int .i64 1, .int .i64 0, .string (bs [])])
 clear hk1 hm1 HM
 go_wp2_with fail
 refine (width_is 54 7 rfl _).mono ?_
 rintro e w2 ⟨rfl, rfl⟩
 generalize w1.alloc _ = wa at *
 have c0 := H0.out.2.2.1.cell 0
 have c1 := H0.out.2.2.1.cell 1
 have c3 := H0.out.2.2.1.cell 3
 simp at c0 c1 c3
 go_wp2_with fail
 refine (sign1 (bs [40]) H0.out.2.1 (by have := HL.out; (try simp only [lna, lnc, lnn] at this |-); omega)).mono ?_
 rintro e w3 ⟨rfl, hk3, hm3⟩
 have H3 := zh (nwI (l := k.flat ++ l) (o := o ++ [sg [40]]) H0.out hk3 hm3 (by decide) #[.string ⟨#[41]⟩] #[.string (bs [41])] rfl)
 have HB3 : Hid (Blk w3 w1.heap.size 42 #[.int .u8 54, .int .i64 1, .int .i64 0, .string (bs [])]) := zh (H0.out.2.2.1.kp hk3 H0.out.2.2.2 (by decide))
 clear hk3 hm3 c0 c1 c3
 have hlt3 := HB3.out.lt
 have c0 := HB3.out.cell 0
 have c1 := HB3.out.cell 1
 have c3 := HB3.out.cell 3
 simp at c0 c1 c3
 go_upto_region 5 with fail
 generalize w3.alloc _ = wb at *
 clear c0 c1 c3 hlt3
 have c0 := H3.out.2.2.1.cell 0
 have c1 := H3.out.2.2.1.cell 1
 have c3 := H3.out.2.2.1.cell 3
 simp at c0 c1 c3
 go_wp2_with fail
 refine (word1 (bs [97, 119, 97, 105, 116]) H3.out.2.1 (by have := HL.out; (try simp only [lna, lnc, lnn] at this |-); omega)).mono ?_
 rintro e w4 ⟨rfl, hk, hm⟩
 have H4 : Hid (Kp g w w4 ∧ WrM w4 g (k.flat ++ l) ((o ++ [sg [40]]) ++ [wd [97, 119, 97, 105, 116]]) ∧ Blk w4 w1.heap.size 42 #[.int .u8 54, .int .i64 1, .int .i64 0, .string (bs [])] ∧ Blk w4 w3.heap.size 9 #[.string (bs [41])]) := zh ⟨H3.out.1.trans hk, hm, H3.out.2.2.1.kp hk H0.out.2.2.2 (by decide), H3.out.2.2.2.1.kp hk H3.out.2.2.2.2 (by decide)⟩
 clear hk hm
 clear c0 c1 c3
 have c0 := H4.out.2.2.1.cell 0
 have c1 := H4.out.2.2.1.cell 1
 have c3 := H4.out.2.2.1.cell 3
 simp at c0 c1 c3
 go_wp2_with fail
 refine (HE.out k HK.out.1 HK.out.2 g 7 _ _ _ (by omega) H4.out.2.1 (by have := HL.out; (try simp only [lna, lnc, lnn] at this |-); omega)).mono ?_
 rintro e w5 ⟨rfl, hk, hm⟩
 have H5 : Hid (Kp g w w5 ∧ WrM w5 g (l) (((o ++ [sg [40]]) ++ [wd [97, 119, 97, 105, 116]]) ++ sh k 7) ∧ Blk w5 w1.heap.size 42 #[.int .u8 54, .int .i64 1, .int .i64 0, .string (bs [])] ∧ Blk w5 w3.heap.size 9 #[.string (bs [41])]) := zh ⟨H4.out.1.trans hk, hm, H4.out.2.2.1.kp hk H0.out.2.2.2 (by decide), H4.out.2.2.2.kp hk H3.out.2.2.2.2 (by decide)⟩
 clear hk hm
 go_wp2_with fail
 refine leaves_cons (f := 56) (args := #[gp g, .slice (some ⟨w3.heap.size, 0, none⟩) 1 1]) (by simp) (by simp [go_sem]) ?_
 refine (sign1_d w3.heap.size (bs [41]) .returning H5.out.2.1 H5.out.2.2.2 H3.out.2.2.2.2 (by have := HL.out; (try simp only [lna, lnc, lnn] at this |-); omega)).mono ?_
 rintro e u' w9 ⟨rfl, rfl, hk9, hm9⟩
 refine ⟨_, results_none rfl _ _ _, rfl, H5.out.1.trans hk9, ?_⟩
 rw [HSH.out]
 simpa only [List.append_assoc, sgB_sg] using hm9
theorem ex55b (N : Nat) (hE : ExprOk N) (hB : BlockOk N) (k : Tr) (hk : Rt 0 k ∧ k.flat.length <= N) (g a : Nat) (ha : 7 < a) (ha9 : a <= 9) (l : List Tw) (o : List Tz) (w : World) (hm : WrM w g ((Tr.flat (.node ⟨55, 1, 0, bs []⟩ [k])) ++ l) o) (ho : o.length + (sh (.node ⟨55, 1, 0, bs []⟩ [k]) a).length <= 1000000) :
 Calls prog 27 #[gp g, .int .i64 (a : Nat)] w (SPost w g l (o ++ sh (.node ⟨55, 1, 0, bs []⟩ [k]) a)) := by
 have HSH : Hid (sh (.node ⟨55, 1, 0, bs []⟩ [k]) a = [sg [40]] ++ ([wd [115, 101, 116, 116, 108, 101]] ++ (sh k 7) ++ [sg [41]])) := zh (by
  rw [sh_expr _ _ (by omega), if_pos (by show  width 55 < a; have : width 55 = 7 := rfl; omega)]
  rw [shs_map]; rfl)
 have HL : Hid (o.length + ([sg [40]] ++ ([wd [115, 101, 116, 116, 108, 101]] ++ (sh k 7) ++ [sg [41]])).length <= 1000000) := zh (by rw [<- HSH.out]; exact ho)
 have HM : Hid (WrM w g (⟨55, 1, 0, bs []⟩ :: (k.flat ++ l)) o) := zh (by simpa [Tr.flat, flats] using hm)
 have HE := zh hE
 have HB := zh hB
 have HK := zh hk
 clear hk
 clear hm ho hE hB
 have d : decide ((7 : Int) < (a : Int)) = true := dqt (by omega)
 go_enter_defers func27, ntmps27
 go_wp2_with fail
 refine (next_any g ⟨55, 1, 0, bs []⟩ (k.flat ++ l) o w HM.out).mono ?_
 rintro e w1 ⟨rfl, hk1, hm1⟩
 have H0 := zh (nwH (l := k.flat ++ l) (o := o) hk1 hm1 42 #[.int .u8 55, .int .i64 1, .int .i64 0, .string (bs [])])
 clear hk1 hm1 HM
 go_wp2_with fail
 refine (width_is 55 7 rfl _).mono ?_
 rintro e w2 ⟨rfl, rfl⟩
 generalize w1.alloc _ = wa at *
 have c0 := H0.out.2.2.1.cell 0
 have c1 := H0.out.2.2.1.cell 1
 have c3 := H0.out.2.2.1.cell 3
 simp at c0 c1 c3
 go_wp2_with fail
 refine (sign1 (bs [40]) H0.out.2.1 (by have := HL.out; (try simp only [lna, lnc, lnn] at this |-); omega)).mono ?_
 rintro e w3 ⟨rfl, hk3, hm3⟩
 have H3 := zh (nwI (l := k.flat ++ l) (o := o ++ [sg [40]]) H0.out hk3 hm3 (by decide) #[.string ⟨#[41]⟩] #[.string (bs [41])] rfl)
 have HB3 : Hid (Blk w3 w1.heap.size 42 #[.int .u8 55, .int .i64 1, .int .i64 0, .string (bs [])]) := zh (H0.out.2.2.1.kp hk3 H0.out.2.2.2 (by decide))
 clear hk3 hm3 c0 c1 c3
 have hlt3 := HB3.out.lt
 have c0 := HB3.out.cell 0
 have c1 := HB3.out.cell 1
 have c3 := HB3.out.cell 3
 simp at c0 c1 c3
 go_upto_region 5 with fail
 generalize w3.alloc _ = wb at *
 clear c0 c1 c3 hlt3
 have c0 := H3.out.2.2.1.cell 0
 have c1 := H3.out.2.2.1.cell 1
 have c3 := H3.out.2.2.1.cell 3
 simp at c0 c1 c3
 go_wp2_with fail
 refine (word1 (bs [115, 101, 116, 116, 108, 101]) H3.out.2.1 (by have := HL.out; (try simp only [lna, lnc, lnn] at this |-); omega)).mono ?_
 rintro e w4 ⟨rfl, hk, hm⟩
 have H4 : Hid (Kp g w w4 ∧ WrM w4 g (k.flat ++ l) ((o ++ [sg [40]]) ++ [wd [115, 101, 116, 116, 108, 101]]) ∧ Blk w4 w1.heap.size 42 #[.int .u8 55, .int .i64 1, .int .i64 0, .string (bs [])] ∧ Blk w4 w3.heap.size 9 #[.string (bs [41])]) := zh ⟨H3.out.1.trans hk, hm, H3.out.2.2.1.kp hk H0.out.2.2.2 (by decide), H3.out.2.2.2.1.kp hk H3.out.2.2.2.2 (by decide)⟩
 clear hk hm
 clear c0 c1 c3
 have c0 := H4.out.2.2.1.cell 0
 have c1 := H4.out.2.2.1.cell 1
 have c3 := H4.out.2.2.1.cell 3
 simp at c0 c1 c3
 go_wp2_with fail
 refine (HE.out k HK.out.1 HK.out.2 g 7 _ _ _ (by omega) H4.out.2.1 (by have := HL.out; (try simp only [lna, lnc, lnn] at this |-); omega)).mono ?_
 rintro e w5 ⟨rfl, hk, hm⟩
 have H5 : Hid (Kp g w w5 ∧ WrM w5 g (l) (((o ++ [sg [40]]) ++ [wd [115, 101, 116, 116, 108, 101]]) ++ sh k 7) ∧ Blk w5 w1.heap.size 42 #[.int .u8 55, .int .i64 1, .int .i64 0, .string (bs [])] ∧ Blk w5 w3.heap.size 9 #[.string (bs [41])]) := zh ⟨H4.out.1.trans hk, hm, H4.out.2.2.1.kp hk H0.out.2.2.2 (by decide), H4.out.2.2.2.kp hk H3.out.2.2.2.2 (by decide)⟩
 clear hk hm
 go_wp2_with fail
 refine leaves_cons (f := 56) (args := #[gp g, .slice (some ⟨w3.heap.size, 0, none⟩) 1 1]) (by simp) (by simp [go_sem]) ?_
 refine (sign1_d w3.heap.size (bs [41]) .returning H5.out.2.1 H5.out.2.2.2 H3.out.2.2.2.2 (by have := HL.out; (try simp only [lna, lnc, lnn] at this |-); omega)).mono ?_
 rintro e u' w9 ⟨rfl, rfl, hk9, hm9⟩
 refine ⟨_, results_none rfl _ _ _, rfl, H5.out.1.trans hk9, ?_⟩
 rw [HSH.out]
 simpa only [List.append_assoc, sgB_sg] using hm9
theorem ex42b (N : Nat) (hE : ExprOk N) (hB : BlockOk N) (k j : Tr) (hk : Rt 0 k ∧ k.flat.length <= N) (hj : Rt 0 j ∧ j.flat.length <= N) (g a : Nat) (ha : 8 < a) (ha9 : a <= 9) (l : List Tw) (o : List Tz) (w : World) (hm : WrM w g ((Tr.flat (.node ⟨42, 2, 0, bs []⟩ [k, j])) ++ l) o) (ho : o.length + (sh (.node ⟨42, 2, 0, bs []⟩ [k, j]) a).length <= 1000000) :
 Calls prog 27 #[gp g, .int .i64 (a : Nat)] w (SPost w g l (o ++ sh (.node ⟨42, 2, 0, bs []⟩ [k, j]) a)) := by
 have HSH : Hid (sh (.node ⟨42, 2, 0, bs []⟩ [k, j]) a = [sg [40]] ++ (sh k 8 ++ (lisS [91] (shs [j]) [93]) ++ [sg [41]])) := zh (by
  rw [sh_expr _ _ (by omega), if_pos (by show  width 42 < a; have : width 42 = 8 := rfl; omega)]
  rw [shs_map]; rfl)
 have HL : Hid (o.length + ([sg [40]] ++ (sh k 8 ++ (lisS [91] (shs [j]) [93]) ++ [sg [41]])).length <= 1000000) := zh (by rw [<- HSH.out]; exact ho)
 have HM : Hid (WrM w g (⟨42, 2, 0, bs []⟩ :: (k.flat ++ (j.flat ++ l))) o) := zh (by simpa [Tr.flat, flats] using hm)
 have HE := zh hE
 have HB := zh hB
 have HK := zh (ai hk hj)
 clear hk hj
 clear hm ho hE hB
 have d : decide ((8 : Int) < (a : Int)) = true := dqt (by omega)
 go_enter_defers func27, ntmps27
 go_wp2_with fail
 refine (next_any g ⟨42, 2, 0, bs []⟩ (k.flat ++ (j.flat ++ l)) o w HM.out).mono ?_
 rintro e w1 ⟨rfl, hk1, hm1⟩
 have H0 := zh (nwH (l := k.flat ++ (j.flat ++ l)) (o := o) hk1 hm1 42 #[.int .u8 42, .int .i64 2, .int .i64 0, .string (bs [])])
 clear hk1 hm1 HM
 go_wp2_with fail
 refine (width_is 42 8 rfl _).mono ?_
 rintro e w2 ⟨rfl, rfl⟩
 generalize w1.alloc _ = wa at *
 have c0 := H0.out.2.2.1.cell 0
 have c1 := H0.out.2.2.1.cell 1
 have c3 := H0.out.2.2.1.cell 3
 simp at c0 c1 c3
 go_wp2_with fail
 refine (sign1 (bs [40]) H0.out.2.1 (by have := HL.out; (try simp only [lna, lnc, lnn] at this |-); omega)).mono ?_
 rintro e w3 ⟨rfl, hk3, hm3⟩
 have H3 := zh (nwI (l := k.flat ++ (j.flat ++ l)) (o := o ++ [sg [40]]) H0.out hk3 hm3 (by decide) #[.string ⟨#[41]⟩] #[.string (bs [41])] rfl)
 have HB3 : Hid (Blk w3 w1.heap.size 42 #[.int .u8 42, .int .i64 2, .int .i64 0, .string (bs [])]) := zh (H0.out.2.2.1.kp hk3 H0.out.2.2.2 (by decide))
 clear hk3 hm3 c0 c1 c3
 have hlt3 := HB3.out.lt
 have c0 := HB3.out.cell 0
 have c1 := HB3.out.cell 1
 have c3 := HB3.out.cell 3
 simp at c0 c1 c3
 go_upto_region 5 with fail
 generalize w3.alloc _ = wb at *
 clear c0 c1 c3 hlt3
 have c0 := H3.out.2.2.1.cell 0
 have c1 := H3.out.2.2.1.cell 1
 have c3 := H3.out.2.2.1.cell 3
 simp at c0 c1 c3
 go_wp2_with fail
 refine (HE.out k HK.out.1.1 HK.out.1.2 g 8 _ _ _ (by omega) H3.out.2.1 (by have := HL.out; (try simp only [lna, lnc, lnn] at this |-); omega)).mono ?_
 rintro e w4 ⟨rfl, hk, hm⟩
 have H4 : Hid (Kp g w w4 ∧ WrM w4 g (j.flat ++ l) ((o ++ [sg [40]]) ++ sh k 8) ∧ Blk w4 w1.heap.size 42 #[.int .u8 42, .int .i64 2, .int .i64 0, .string (bs [])] ∧ Blk w4 w3.heap.size 9 #[.string (bs [41])]) := zh ⟨H3.out.1.trans hk, hm, H3.out.2.2.1.kp hk H0.out.2.2.2 (by decide), H3.out.2.2.2.1.kp hk H3.out.2.2.2.2 (by decide)⟩
 clear hk hm
 clear c0 c1 c3
 have c0 := H4.out.2.2.1.cell 0
 have c1 := H4.out.2.2.1.cell 1
 have c3 := H4.out.2.2.1.cell 3
 simp at c0 c1 c3
 go_wp2_with fail
 refine (wlist_any N HE.out [j] (mem1 HK.out.2) [91] [93] g 1 _ _ _ (by rw [flat1]; exact H4.out.2.1) rfl (by omega) (by have := HL.out; (try simp only [lna, lnc, lnn] at this |-); omega)).mono ?_
 rintro e w5 ⟨rfl, hk, hm⟩
 have H5 : Hid (Kp g w w5 ∧ WrM w5 g (l) (((o ++ [sg [40]]) ++ sh k 8) ++ lisS [91] (shs [j]) [93]) ∧ Blk w5 w1.heap.size 42 #[.int .u8 42, .int .i64 2, .int .i64 0, .string (bs [])] ∧ Blk w5 w3.heap.size 9 #[.string (bs [41])]) := zh ⟨H4.out.1.trans hk, hm, H4.out.2.2.1.kp hk H0.out.2.2.2 (by decide), H4.out.2.2.2.kp hk H3.out.2.2.2.2 (by decide)⟩
 clear hk hm
 go_wp2_with fail
 refine leaves_cons (f := 56) (args := #[gp g, .slice (some ⟨w3.heap.size, 0, none⟩) 1 1]) (by simp) (by simp [go_sem]) ?_
 refine (sign1_d w3.heap.size (bs [41]) .returning H5.out.2.1 H5.out.2.2.2 H3.out.2.2.2.2 (by have := HL.out; (try simp only [lna, lnc, lnn] at this |-); omega)).mono ?_
 rintro e u' w9 ⟨rfl, rfl, hk9, hm9⟩
 refine ⟨_, results_none rfl _ _ _, rfl, H5.out.1.trans hk9, ?_⟩
 rw [HSH.out]
 simpa only [List.append_assoc, sgB_sg] using hm9
theorem ex32b (N : Nat) (hE : ExprOk N) (hB : BlockOk N) (k j : Tr) (hk : Rt 0 k ∧ k.flat.length <= N) (hj : Rt 0 j ∧ j.flat.length <= N) (g a : Nat) (ha : 4 < a) (ha9 : a <= 9) (l : List Tw) (o : List Tz) (w : World) (hm : WrM w g ((Tr.flat (.node ⟨32, 2, 0, bs []⟩ [k, j])) ++ l) o) (ho : o.length + (sh (.node ⟨32, 2, 0, bs []⟩ [k, j]) a).length <= 1000000) :
 Calls prog 27 #[gp g, .int .i64 (a : Nat)] w (SPost w g l (o ++ sh (.node ⟨32, 2, 0, bs []⟩ [k, j]) a)) := by
 have HSH : Hid (sh (.node ⟨32, 2, 0, bs []⟩ [k, j]) a = [sg [40]] ++ (sh k 5 ++ ([midT 32] ++ (sh j 5)) ++ [sg [41]])) := zh (by
  rw [sh_expr _ _ (by omega), if_pos (by show  width 32 < a; have : width 32 = 4 := rfl; omega)]
  rw [shs_map]; rfl)
 have HL : Hid (o.length + ([sg [40]] ++ (sh k 5 ++ ([midT 32] ++ (sh j 5)) ++ [sg [41]])).length <= 1000000) := zh (by rw [<- HSH.out]; exact ho)
 have HM : Hid (WrM w g (⟨32, 2, 0, bs []⟩ :: (k.flat ++ (j.flat ++ l))) o) := zh (by simpa [Tr.flat, flats] using hm)
 have HE := zh hE
 have HB := zh hB
 have HK := zh (ai hk hj)
 clear hk hj
 clear hm ho hE hB
 have d : decide ((4 : Int) < (a : Int)) = true := dqt (by omega)
 go_enter_defers func27, ntmps27
 go_wp2_with fail
 refine (next_any g ⟨32, 2, 0, bs []⟩ (k.flat ++ (j.flat ++ l)) o w HM.out).mono ?_
 rintro e w1 ⟨rfl, hk1, hm1⟩
 have H0 := zh (nwH (l := k.flat ++ (j.flat ++ l)) (o := o) hk1 hm1 42 #[.int .u8 32, .int .i64 2, .int .i64 0, .string (bs [])])
 clear hk1 hm1 HM
 go_wp2_with fail
 refine (width_is 32 4 rfl _).mono ?_
 rintro e w2 ⟨rfl, rfl⟩
 generalize w1.alloc _ = wa at *
 have c0 := H0.out.2.2.1.cell 0
 have c1 := H0.out.2.2.1.cell 1
 have c3 := H0.out.2.2.1.cell 3
 simp at c0 c1 c3
 go_wp2_with fail
 refine (sign1 (bs [40]) H0.out.2.1 (by have := HL.out; (try simp only [lna, lnc, lnn] at this |-); omega)).mono ?_
 rintro e w3 ⟨rfl, hk3, hm3⟩
 have H3 := zh (nwI (l := k.flat ++ (j.flat ++ l)) (o := o ++ [sg [40]]) H0.out hk3 hm3 (by decide) #[.string ⟨#[41]⟩] #[.string (bs [41])] rfl)
 have HB3 : Hid (Blk w3 w1.heap.size 42 #[.int .u8 32, .int .i64 2, .int .i64 0, .string (bs [])]) := zh (H0.out.2.2.1.kp hk3 H0.out.2.2.2 (by decide))
 clear hk3 hm3 c0 c1 c3
 have hlt3 := HB3.out.lt
 have c0 := HB3.out.cell 0
 have c1 := HB3.out.cell 1
 have c3 := HB3.out.cell 3
 simp at c0 c1 c3
 go_upto_region 5 with fail
 generalize w3.alloc _ = wb at *
 clear c0 c1 c3 hlt3
 have c0 := H3.out.2.2.1.cell 0
 have c1 := H3.out.2.2.1.cell 1
 have c3 := H3.out.2.2.1.cell 3
 simp at c0 c1 c3
 go_wp2_with fail
 refine (HE.out k HK.out.1.1 HK.out.1.2 g 5 _ _ _ (by omega) H3.out.2.1 (by have := HL.out; (try simp only [lna, lnc, lnn] at this |-); omega)).mono ?_
 rintro e w4 ⟨rfl, hk, hm⟩
 have H4 : Hid (Kp g w w4 ∧ WrM w4 g (j.flat ++ l) ((o ++ [sg [40]]) ++ sh k 5) ∧ Blk w4 w1.heap.size 42 #[.int .u8 32, .int .i64 2, .int .i64 0, .string (bs [])] ∧ Blk w4 w3.heap.size 9 #[.string (bs [41])]) := zh ⟨H3.out.1.trans hk, hm, H3.out.2.2.1.kp hk H0.out.2.2.2 (by decide), H3.out.2.2.2.1.kp hk H3.out.2.2.2.2 (by decide)⟩
 clear hk hm
 clear c0 c1 c3
 have c0 := H4.out.2.2.1.cell 0
 have c1 := H4.out.2.2.1.cell 1
 have c3 := H4.out.2.2.1.cell 3
 simp at c0 c1 c3
 go_wp2_with fail
 refine (between_any 32 g _ _ _ H4.out.2.1 (by have := HL.out; (try simp only [lna, lnc, lnn] at this |-); omega) (by omega)).mono ?_
 rintro e w5 ⟨rfl, hk, hm⟩
 have H5 : Hid (Kp g w w5 ∧ WrM w5 g (j.flat ++ l) (((o ++ [sg [40]]) ++ sh k 5) ++ [midT 32]) ∧ Blk w5 w1.heap.size 42 #[.int .u8 32, .int .i64 2, .int .i64 0, .string (bs [])] ∧ Blk w5 w3.heap.size 9 #[.string (bs [41])]) := zh ⟨H4.out.1.trans hk, hm, H4.out.2.2.1.kp hk H0.out.2.2.2 (by decide), H4.out.2.2.2.kp hk H3.out.2.2.2.2 (by decide)⟩
 clear hk hm
 clear c0 c1 c3
 have c0 := H5.out.2.2.1.cell 0
 have c1 := H5.out.2.2.1.cell 1
 have c3 := H5.out.2.2.1.cell 3
 simp at c0 c1 c3
 go_wp2_with fail
 refine (HE.out j HK.out.2.1 HK.out.2.2 g 5 _ _ _ (by omega) H5.out.2.1 (by have := HL.out; (try simp only [lna, lnc, lnn] at this |-); omega)).mono ?_
 rintro e w6 ⟨rfl, hk, hm⟩
 have H6 : Hid (Kp g w w6 ∧ WrM w6 g (l) ((((o ++ [sg [40]]) ++ sh k 5) ++ [midT 32]) ++ sh j 5) ∧ Blk w6 w1.heap.size 42 #[.int .u8 32, .int .i64 2, .int .i64 0, .string (bs [])] ∧ Blk w6 w3.heap.size 9 #[.string (bs [41])]) := zh ⟨H5.out.1.trans hk, hm, H5.out.2.2.1.kp hk H0.out.2.2.2 (by decide), H5.out.2.2.2.kp hk H3.out.2.2.2.2 (by decide)⟩
 clear hk hm
 go_wp2_with fail
 refine leaves_cons (f := 56) (args := #[gp g, .slice (some ⟨w3.heap.size, 0, none⟩) 1 1]) (by simp) (by simp [go_sem]) ?_
 refine (sign1_d w3.heap.size (bs [41]) .returning H6.out.2.1 H6.out.2.2.2 H3.out.2.2.2.2 (by have := HL.out; (try simp only [lna, lnc, lnn] at this |-); omega)).mono ?_
 rintro e u' w9 ⟨rfl, rfl, hk9, hm9⟩
 refine ⟨_, results_none rfl _ _ _, rfl, H6.out.1.trans hk9, ?_⟩
 rw [HSH.out]
 simpa only [List.append_assoc, sgB_sg] using hm9
theorem ex33b (N : Nat) (hE : ExprOk N) (hB : BlockOk N) (k j : Tr) (hk : Rt 0 k ∧ k.flat.length <= N) (hj : Rt 0 j ∧ j.flat.length <= N) (g a : Nat) (ha : 4 < a) (ha9 : a <= 9) (l : List Tw) (o : List Tz) (w : World) (hm : WrM w g ((Tr.flat (.node ⟨33, 2, 0, bs []⟩ [k, j])) ++ l) o) (ho : o.length + (sh (.node ⟨33, 2, 0, bs []⟩ [k, j]) a).length <= 1000000) :
 Calls prog 27 #[gp g, .int .i64 (a : Nat)] w (SPost w g l (o ++ sh (.node ⟨33, 2, 0, bs []⟩ [k, j]) a)) := by
 have HSH : Hid (sh (.node ⟨33, 2, 0, bs []⟩ [k, j]) a = [sg [40]] ++ (sh k 5 ++ ([midT 33] ++ (sh j 5)) ++ [sg [41]])) := zh (by
  rw [sh_expr _ _ (by omega), if_pos (by show  width 33 < a; have : width 33 = 4 := rfl; omega)]
  rw [shs_map]; rfl)
 have HL : Hid (o.length + ([sg [40]] ++ (sh k 5 ++ ([midT 33] ++ (sh j 5)) ++ [sg [41]])).length <= 1000000) := zh (by rw [<- HSH.out]; exact ho)
 have HM : Hid (WrM w g (⟨33, 2, 0, bs []⟩ :: (k.flat ++ (j.flat ++ l))) o) := zh (by simpa [Tr.flat, flats] using hm)
 have HE := zh hE
 have HB := zh hB
 have HK := zh (ai hk hj)
 clear hk hj
 clear hm ho hE hB
 have d : decide ((4 : Int) < (a : Int)) = true := dqt (by omega)
 go_enter_defers func27, ntmps27
 go_wp2_with fail
 refine (next_any g ⟨33, 2, 0, bs []⟩ (k.flat ++ (j.flat ++ l)) o w HM.out).mono ?_
 rintro e w1 ⟨rfl, hk1, hm1⟩
 have H0 := zh (nwH (l := k.flat ++ (j.flat ++ l)) (o := o) hk1 hm1 42 #[.int .u8 33, .int .i64 2, .int .i64 0, .string (bs [])])
 clear hk1 hm1 HM
 go_wp2_with fail
 refine (width_is 33 4 rfl _).mono ?_
 rintro e w2 ⟨rfl, rfl⟩
 generalize w1.alloc _ = wa at *
 have c0 := H0.out.2.2.1.cell 0
 have c1 := H0.out.2.2.1.cell 1
 have c3 := H0.out.2.2.1.cell 3
 simp at c0 c1 c3
 go_wp2_with fail
 refine (sign1 (bs [40]) H0.out.2.1 (by have := HL.out; (try simp only [lna, lnc, lnn] at this |-); omega)).mono ?_
 rintro e w3 ⟨rfl, hk3, hm3⟩
 have H3 := zh (nwI (l := k.flat ++ (j.flat ++ l)) (o := o ++ [sg [40]]) H0.out hk3 hm3 (by decide) #[.string ⟨#[41]⟩] #[.string (bs [41])] rfl)
 have HB3 : Hid (Blk w3 w1.heap.size 42 #[.int .u8 33, .int .i64 2, .int .i64 0, .string (bs [])]) := zh (H0.out.2.2.1.kp hk3 H0.out.2.2.2 (by decide))
 clear hk3 hm3 c0 c1 c3
 have hlt3 := HB3.out.lt
 have c0 := HB3.out.cell 0
 have c1 := HB3.out.cell 1
 have c3 := HB3.out.cell 3
 simp at c0 c1 c3
 go_upto_region 5 with fail
 generalize w3.alloc _ = wb at *
 clear c0 c1 c3 hlt3
 have c0 := H3.out.2.2.1.cell 0
 have c1 := H3.out.2.2.1.cell 1
 have c3 := H3.out.2.2.1.cell 3
 simp at c0 c1 c3
 go_wp2_with fail
 refine (HE.out k HK.out.1.1 HK.out.1.2 g 5 _ _ _ (by omega) H3.out.2.1 (by have := HL.out; (try simp only [lna, lnc, lnn] at this |-); omega)).mono ?_
 rintro e w4 ⟨rfl, hk, hm⟩
 have H4 : Hid (Kp g w w4 ∧ WrM w4 g (j.flat ++ l) ((o ++ [sg [40]]) ++ sh k 5) ∧ Blk w4 w1.heap.size 42 #[.int .u8 33, .int .i64 2, .int .i64 0, .string (bs [])] ∧ Blk w4 w3.heap.size 9 #[.string (bs [41])]) := zh ⟨H3.out.1.trans hk, hm, H3.out.2.2.1.kp hk H0.out.2.2.2 (by decide), H3.out.2.2.2.1.kp hk H3.out.2.2.2.2 (by decide)⟩
 clear hk hm
 clear c0 c1 c3
 have c0 := H4.out.2.2.1.cell 0
 have c1 := H4.out.2.2.1.cell 1
 have c3 := H4.out.2.2.1.cell 3
 simp at c0 c1 c3
 go_wp2_with fail
 refine (between_any 33 g _ _ _ H4.out.2.1 (by have := HL.out; (try simp only [lna, lnc, lnn] at this |-); omega) (by omega)).mono ?_
 rintro e w5 ⟨rfl, hk, hm⟩
 have H5 : Hid (Kp g w w5 ∧ WrM w5 g (j.flat ++ l) (((o ++ [sg [40]]) ++ sh k 5) ++ [midT 33]) ∧ Blk w5 w1.heap.size 42 #[.int .u8 33, .int .i64 2, .int .i64 0, .string (bs [])] ∧ Blk w5 w3.heap.size 9 #[.string (bs [41])]) := zh ⟨H4.out.1.trans hk, hm, H4.out.2.2.1.kp hk H0.out.2.2.2 (by decide), H4.out.2.2.2.kp hk H3.out.2.2.2.2 (by decide)⟩
 clear hk hm
 clear c0 c1 c3
 have c0 := H5.out.2.2.1.cell 0
 have c1 := H5.out.2.2.1.cell 1
 have c3 := H5.out.2.2.1.cell 3
 simp at c0 c1 c3
 go_wp2_with fail
 refine (HE.out j HK.out.2.1 HK.out.2.2 g 5 _ _ _ (by omega) H5.out.2.1 (by have := HL.out; (try simp only [lna, lnc, lnn] at this |-); omega)).mono ?_
 rintro e w6 ⟨rfl, hk, hm⟩
 have H6 : Hid (Kp g w w6 ∧ WrM w6 g (l) ((((o ++ [sg [40]]) ++ sh k 5) ++ [midT 33]) ++ sh j 5) ∧ Blk w6 w1.heap.size 42 #[.int .u8 33, .int .i64 2, .int .i64 0, .string (bs [])] ∧ Blk w6 w3.heap.size 9 #[.string (bs [41])]) := zh ⟨H5.out.1.trans hk, hm, H5.out.2.2.1.kp hk H0.out.2.2.2 (by decide), H5.out.2.2.2.kp hk H3.out.2.2.2.2 (by decide)⟩
 clear hk hm
 go_wp2_with fail
 refine leaves_cons (f := 56) (args := #[gp g, .slice (some ⟨w3.heap.size, 0, none⟩) 1 1]) (by simp) (by simp [go_sem]) ?_
 refine (sign1_d w3.heap.size (bs [41]) .returning H6.out.2.1 H6.out.2.2.2 H3.out.2.2.2.2 (by have := HL.out; (try simp only [lna, lnc, lnn] at this |-); omega)).mono ?_
 rintro e u' w9 ⟨rfl, rfl, hk9, hm9⟩
 refine ⟨_, results_none rfl _ _ _, rfl, H6.out.1.trans hk9, ?_⟩
 rw [HSH.out]
 simpa only [List.append_assoc, sgB_sg] using hm9
theorem ex34b (N : Nat) (hE : ExprOk N) (hB : BlockOk N) (k j : Tr) (hk : Rt 0 k ∧ k.flat.length <= N) (hj : Rt 0 j ∧ j.flat.length <= N) (g a : Nat) (ha : 4 < a) (ha9 : a <= 9) (l : List Tw) (o : List Tz) (w : World) (hm : WrM w g ((Tr.flat (.node ⟨34, 2, 0, bs []⟩ [k, j])) ++ l) o) (ho : o.length + (sh (.node ⟨34, 2, 0, bs []⟩ [k, j]) a).length <= 1000000) :
 Calls prog 27 #[gp g, .int .i64 (a : Nat)] w (SPost w g l (o ++ sh (.node ⟨34, 2, 0, bs []⟩ [k, j]) a)) := by
 have HSH : Hid (sh (.node ⟨34, 2, 0, bs []⟩ [k, j]) a = [sg [40]] ++ (sh k 5 ++ ([midT 34] ++ (sh j 5)) ++ [sg [41]])) := zh (by
  rw [sh_expr _ _ (by omega), if_pos (by show  width 34 < a; have : width 34 = 4 := rfl; omega)]
  rw [shs_map]; rfl)
 have HL : Hid (o.length + ([sg [40]] ++ (sh k 5 ++ ([midT 34] ++ (sh j 5)) ++ [sg [41]])).length <= 1000000) := zh (by rw [<- HSH.out]; exact ho)
 have HM : Hid (WrM w g (⟨34, 2, 0, bs []⟩ :: (k.flat ++ (j.flat ++ l))) o) := zh (by simpa [Tr.flat, flats] using hm)
 have HE := zh hE
 have HB := zh hB
 have HK := zh (ai hk hj)
 clear hk hj
 clear hm ho hE hB
 have d : decide ((4 : Int) < (a : Int)) = true := dqt (by omega)
 go_enter_defers func27, ntmps27
 go_wp2_with fail
 refine (next_any g ⟨34, 2, 0, bs []⟩ (k.flat ++ (j.flat ++ l)) o w HM.out).mono ?_
 rintro e w1 ⟨rfl, hk1, hm1⟩
 have H0 := zh (nwH (l := k.flat ++ (j.flat ++ l)) (o := o) hk1 hm1 42 #[.int .u8 34, .int .i64 2, .int .i64 0, .string (bs [])])
 clear hk1 hm1 HM
 go_wp2_with fail
 refine (width_is 34 4 rfl _).mono ?_
 rintro e w2 ⟨rfl, rfl⟩
 generalize w1.alloc _ = wa at *
 have c0 := H0.out.2.2.1.cell 0
 have c1 := H0.out.2.2.1.cell 1
 have c3 := H0.out.2.2.1.cell 3
 simp at c0 c1 c3
 go_wp2_with fail
 refine (sign1 (bs [40]) H0.out.2.1 (by have := HL.out; (try simp only [lna, lnc, lnn] at this |-); omega)).mono ?_
 rintro e w3 ⟨rfl, hk3, hm3⟩
 have H3 := zh (nwI (l := k.flat ++ (j.flat ++ l)) (o := o ++ [sg [40]]) H0.out hk3 hm3 (by decide) #[.string ⟨#[41]⟩] #[.string (bs [41])] rfl)
 have HB3 : Hid (Blk w3 w1.heap.size 42 #[.int .u8 34, .int .i64 2, .int .i64 0, .string (bs [])]) := zh (H0.out.2.2.1.kp hk3 H0.out.2.2.2 (by decide))
 clear hk3 hm3 c0 c1 c3
 have hlt3 := HB3.out.lt
 have c0 := HB3.out.cell 0
 have c1 := HB3.out.cell 1
 have c3 := HB3.out.cell 3
 simp at c0 c1 c3
 go_upto_region 5 with fail
 generalize w3.alloc _ = wb at *
 clear c0 c1 c3 hlt3
 have c0 := H3.out.2.2.1.cell 0
 have c1 := H3.out.2.2.1.cell 1
 have c3 := H3.out.2.2.1.cell 3
 simp at c0 c1 c3
 go_wp2_with fail
 refine (HE.out k HK.out.1.1 HK.out.1.2 g 5 _ _ _ (by omega) H3.out.2.1 (by have := HL.out; (try simp only [lna, lnc, lnn] at this |-); omega)).mono ?_
 rintro e w4 ⟨rfl, hk, hm⟩
 have H4 : Hid (Kp g w w4 ∧ WrM w4 g (j.flat ++ l) ((o ++ [sg [40]]) ++ sh k 5) ∧ Blk w4 w1.heap.size 42 #[.int .u8 34, .int .i64 2, .int .i64 0, .string (bs [])] ∧ Blk w4 w3.heap.size 9 #[.string (bs [41])]) := zh ⟨H3.out.1.trans hk, hm, H3.out.2.2.1.kp hk H0.out.2.2.2 (by decide), H3.out.2.2.2.1.kp hk H3.out.2.2.2.2 (by decide)⟩
 clear hk hm
 clear c0 c1 c3
 have c0 := H4.out.2.2.1.cell 0
 have c1 := H4.out.2.2.1.cell 1
 have c3 := H4.out.2.2.1.cell 3
 simp at c0 c1 c3
 go_wp2_with fail
 refine (between_any 34 g _ _ _ H4.out.2.1 (by have := HL.out; (try simp only [lna, lnc, lnn] at this |-); omega) (by omega)).mono ?_
 rintro e w5 ⟨rfl, hk, hm⟩
 have H5 : Hid (Kp g w w5 ∧ WrM w5 g (j.flat ++ l) (((o ++ [sg [40]]) ++ sh k 5) ++ [midT 34]) ∧ Blk w5 w1.heap.size 42 #[.int .u8 34, .int .i64 2, .int .i64 0, .string (bs [])] ∧ Blk w5 w3.heap.size 9 #[.string (bs [41])]) := zh ⟨H4.out.1.trans hk, hm, H4.out.2.2.1.kp hk H0.out.2.2.2 (by decide), H4.out.2.2.2.kp hk H3.out.2.2.2.2 (by decide)⟩
 clear hk hm
 clear c0 c1 c3
 have c0 := H5.out.2.2.1.cell 0
 have c1 := H5.out.2.2.1.cell 1
 have c3 := H5.out.2.2.1.cell 3
 simp at c0 c1 c3
 go_wp2_with fail
 refine (HE.out j HK.out.2.1 HK.out.2.2 g 5 _ _ _ (by omega) H5.out.2.1 (by have := HL.out; (try simp only [lna, lnc, lnn] at this |-); omega)).mono ?_
 rintro e w6 ⟨rfl, hk, hm⟩
 have H6 : Hid (Kp g w w6 ∧ WrM w6 g (l) ((((o ++ [sg [40]]) ++ sh k 5) ++ [midT 34]) ++ sh j 5) ∧ Blk w6 w1.heap.size 42 #[.int .u8 34, .int .i64 2, .int .i64 0, .string (bs [])] ∧ Blk w6 w3.heap.size 9 #[.string (bs [41])]) := zh ⟨H5.out.1.trans hk, hm, H5.out.2.2.1.kp hk H0.out.2.2.2 (by decide), H5.out.2.2.2.kp hk H3.out.2.2.2.2 (by decide)⟩
 clear hk hm
 go_wp2_with fail
 refine leaves_cons (f := 56) (args := #[gp g, .slice (some ⟨w3.heap.size, 0, none⟩) 1 1]) (by simp) (by simp [go_sem]) ?_
 refine (sign1_d w3.heap.size (bs [41]) .returning H6.out.2.1 H6.out.2.2.2 H3.out.2.2.2.2 (by have := HL.out; (try simp only [lna, lnc, lnn] at this |-); omega)).mono ?_
 rintro e u' w9 ⟨rfl, rfl, hk9, hm9⟩
 refine ⟨_, results_none rfl _ _ _, rfl, H6.out.1.trans hk9, ?_⟩
 rw [HSH.out]
 simpa only [List.append_assoc, sgB_sg] using hm9
end Go.Proofs.YtbcadlocldplfaaDoor
