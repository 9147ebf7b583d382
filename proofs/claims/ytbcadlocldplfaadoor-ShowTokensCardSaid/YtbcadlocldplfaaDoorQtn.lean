/- The writer's expr, operations 35, 30, 31, 36, 37, 38, 39, 40. And what follows from it. -/
import Derived.Test.YtbcadlocldplfaaDoorQta
import Derived.Test.YtbcadlocldplfaaDoorQtl
import Derived.Test.YtbcadlocldplfaaDoorQtm
import Derived.Test.YtbcadlocldplfaaDoorQt0
set_option maxHeartbeats 16000000
set_option linter.unusedSimpArgs false
set_option linter.unusedVariables false
namespace Go.Proofs.YtbcadlocldplfaaDoor
open Go.Proofs.Tryd
set_option maxRecDepth 100000
open Go.RowKit T8
theorem ex35b (N : Nat) (hE : ExprOk N) (hB : BlockOk N) (k j : Tr) (hk : Rt 0 k ∧ k.flat.length <= N) (hj : Rt 0 j ∧ j.flat.length <= N) (g a : Nat) (ha : 4 < a) (ha9 : a <= 9) (l : List Tw) (o : List Tz) (w : World) (hm : WrM w g ((Tr.flat (.node ⟨35, 2, 0, bs []⟩ [k, j])) ++ l) o) (ho : o.length + (sh (.node ⟨35, 2, 0, bs []⟩ [k, j]) a).length <= 1000000) :
 Calls prog 27 #[gp g, .int .i64 (a : Nat)] w (SPost w g l (o ++ sh (.node ⟨35, 2, 0, bs []⟩ [k, j]) a)) := by
 have HSH : Hid (sh (.node ⟨35, 2, 0, bs []⟩ [k, j]) a = [sg [40]] ++ (sh k 5 ++ ([midT 35] ++ (sh j 5)) ++ [sg [41]])) := zh (by
  rw [sh_expr _ _ (by omega), if_pos (by show  width 35 < a; have : width 35 = 4 := rfl; omega)]
  rw [shs_map]; rfl)
 have HL : Hid (o.length + ([sg [40]] ++ (sh k 5 ++ ([midT 35] ++ (sh j 5)) ++ [sg [41]])).length <= 1000000) := zh (by rw [<- HSH.out]; exact ho)
 have HM : Hid (WrM w g (⟨35, 2, 0, bs []⟩ :: (k.flat ++ (j.flat ++ l))) o) := zh (by simpa [Tr.flat, flats] using hm)
 have HE := zh hE
 have HB := zh hB
 have HK := zh (ai hk hj)
 clear hk hj
 clear hm ho hE hB
 have d : decide ((4 : Int) < (a : Int)) = true := dqt (by omega)
 go_enter_defers func27, ntmps27
 go_wp2_with fail
 refine (next_any g ⟨35, 2, 0, bs []⟩ (k.flat ++ (j.flat ++ l)) o w HM.out).mono ?_
 rintro e w1 ⟨rfl, hk1, hm1⟩
 have H0 := zh (nwH (l := k.flat ++ (j.flat ++ l)) (o := o) hk1 hm1 42 #[.int .u8 35, .int .i64 2, .int .i64 0, .string (bs [])])
 clear hk1 hm1 HM
 go_wp2_with fail
 refine (width_is 35 4 rfl _).mono ?_
 rintro e w2 ⟨rfl, rfl⟩
 generalize w1.alloc _ = wa at *
 have c0 := H0.out.2.2.1.cell 0
 have c1 := H0.out.2.2.1.cell 1
 have c3 := H0.out.2.2.1.cell 3
 simp at c0 c1 c3
 go_wp2_with fail
 refine (sign1 (bs [40]) H0.out.2.1 (by have := HL.out; (try simp only [lna, lnc, lnn] at this |-); omega)).mono ?_
 rintro e w3 ⟨rfl, hk3, hm3⟩
 have H3 := zh (nwI (l := k.flat ++ (j.flat ++ l)) (o := o ++ [sg [40]]) H0.out hk3 hm3 (by decide) #[.string ⟨#[41]⟩] #[.string (bs [41])] rfl)
 have HB3 : Hid (Blk w3 w1.heap.size 42 #[.int .u8 35, .int .i64 2, .int .i64 0, .string (bs [])]) := zh (H0.out.2.2.1.kp hk3 H0.out.2.2.2 (by decide))
 clear hk3 hm3 c0 c1 c3
 have hlt3 := HB3.out.lt
 have c0 := HB3.out.cell 0
 have c1 := HB3.out.cell 1
 have c3 := HB3.out.cell 3
 simp at c0 c1 c3
 go_upto_region 5 with fail
 generalize w3.alloc _ = wb at *
 clear c0 c1 c3 hlt3
 have c0 := H3.out.2.2.1.cell 0
 have c1 := H3.out.2.2.1.cell 1
 have c3 := H3.out.2.2.1.cell 3
 simp at c0 c1 c3
 go_wp2_with fail
 refine (HE.out k HK.out.1.1 HK.out.1.2 g 5 _ _ _ (by omega) H3.out.2.1 (by have := HL.out; (try simp only [lna, lnc, lnn] at this |-); omega)).mono ?_
 rintro e w4 ⟨rfl, hk, hm⟩
 have H4 : Hid (Kp g w w4 ∧ WrM w4 g (j.flat ++ l) ((o ++ [sg [40]]) ++ sh k 5) ∧ Blk w4 w1.heap.size 42 #[.int .u8 35, .int .i64 2, .int .i64 0, .string (bs [])] ∧ Blk w4 w3.heap.size 9 #[.string (bs [41])]) := zh ⟨H3.out.1.trans hk, hm, H3.out.2.2.1.kp hk H0.out.2.2.2 (by decide), H3.out.2.2.2.1.kp hk H3.out.2.2.2.2 (by decide)⟩
 clear hk hm
 clear c0 c1 c3
 have c0 := H4.out.2.2.1.cell 0
 have c1 := H4.out.2.2.1.cell 1
 have c3 := H4.out.2.2.1.cell 3
 simp at c0 c1 c3
 go_wp2_with fail
 refine (between_any 35 g _ _ _ H4.out.2.1 (by have := HL.out; (try simp only [lna, lnc, lnn] at this |-); omega) (by omega)).mono ?_
 rintro e w5 ⟨rfl, hk, hm⟩
 have H5 : Hid (Kp g w w5 ∧ WrM w5 g (j.flat ++ l) (((o ++ [sg [40]]) ++ sh k 5) ++ [midT 35]) ∧ Blk w5 w1.heap.size 42 #[.int .u8 35, .int .i64 2, .int .i64 0, .string (bs [])] ∧ Blk w5 w3.heap.size 9 #[.string (bs [41])]) := zh ⟨H4.out.1.trans hk, hm, H4.out.2.2.1.kp hk H0.out.2.2.2 (by decide), H4.out.2.2.2.kp hk H3.out.2.2.2.2 (by decide)⟩
 clear hk hm
 clear c0 c1 c3
 have c0 := H5.out.2.2.1.cell 0
 have c1 := H5.out.2.2.1.cell 1
 have c3 := H5.out.2.2.1.cell 3
 simp at c0 c1 c3
 go_wp2_with fail
 refine (HE.out j HK.out.2.1 HK.out.2.2 g 5 _ _ _ (by omega) H5.out.2.1 (by have := HL.out; (try simp only [lna, lnc, lnn] at this |-); omega)).mono ?_
 rintro e w6 ⟨rfl, hk, hm⟩
 have H6 : Hid (Kp g w w6 ∧ WrM w6 g (l) ((((o ++ [sg [40]]) ++ sh k 5) ++ [midT 35]) ++ sh j 5) ∧ Blk w6 w1.heap.size 42 #[.int .u8 35, .int .i64 2, .int .i64 0, .string (bs [])] ∧ Blk w6 w3.heap.size 9 #[.string (bs [41])]) := zh ⟨H5.out.1.trans hk, hm, H5.out.2.2.1.kp hk H0.out.2.2.2 (by decide), H5.out.2.2.2.kp hk H3.out.2.2.2.2 (by decide)⟩
 clear hk hm
 go_wp2_with fail
 refine leaves_cons (f := 56) (args := #[gp g, .slice (some ⟨w3.heap.size, 0, none⟩) 1 1]) (by simp) (by simp [go_sem]) ?_
 refine (sign1_d w3.heap.size (bs [41]) .returning H6.out.2.1 H6.out.2.2.2 H3.out.2.2.2.2 (by have := HL.out; (try simp only [lna, lnc, lnn] at this |-); omega)).mono ?_
 rintro e u' w9 ⟨rfl, rfl, hk9, hm9⟩
 refine ⟨_, results_none rfl _ _ _, rfl, H6.out.1.trans hk9, ?_⟩
 rw [HSH.out]
 simpa only [List.append_assoc, sgB_sg] using hm9
theorem ex30b (N : Nat) (hE : ExprOk N) (hB : BlockOk N) (k j : Tr) (hk : Rt 0 k ∧ k.flat.length <= N) (hj : Rt 0 j ∧ j.flat.length <= N) (g a : Nat) (ha : 1 < a) (ha9 : a <= 9) (l : List Tw) (o : List Tz) (w : World) (hm : WrM w g ((Tr.flat (.node ⟨30, 2, 0, bs []⟩ [k, j])) ++ l) o) (ho : o.length + (sh (.node ⟨30, 2, 0, bs []⟩ [k, j]) a).length <= 1000000) :
 Calls prog 27 #[gp g, .int .i64 (a : Nat)] w (SPost w g l (o ++ sh (.node ⟨30, 2, 0, bs []⟩ [k, j]) a)) := by
 have HSH : Hid (sh (.node ⟨30, 2, 0, bs []⟩ [k, j]) a = [sg [40]] ++ (sh k 1 ++ ([midT 30] ++ (sh j 2)) ++ [sg [41]])) := zh (by
  rw [sh_expr _ _ (by omega), if_pos (by show  width 30 < a; have : width 30 = 1 := rfl; omega)]
  rw [shs_map]; rfl)
 have HL : Hid (o.length + ([sg [40]] ++ (sh k 1 ++ ([midT 30] ++ (sh j 2)) ++ [sg [41]])).length <= 1000000) := zh (by rw [<- HSH.out]; exact ho)
 have HM : Hid (WrM w g (⟨30, 2, 0, bs []⟩ :: (k.flat ++ (j.flat ++ l))) o) := zh (by simpa [Tr.flat, flats] using hm)
 have HE := zh hE
 have HB := zh hB
 have HK := zh (ai hk hj)
 clear hk hj
 clear hm ho hE hB
 have d : decide ((1 : Int) < (a : Int)) = true := dqt (by omega)
 go_enter_defers func27, ntmps27
 go_wp2_with fail
 refine (next_any g ⟨30, 2, 0, bs []⟩ (k.flat ++ (j.flat ++ l)) o w HM.out).mono ?_
 rintro e w1 ⟨rfl, hk1, hm1⟩
 have H0 := zh (nwH (l := k.flat ++ (j.flat ++ l)) (o := o) hk1 hm1 42 #[.int .u8 30, .int .i64 2, .int .i64 0, .string (bs [])])
 clear hk1 hm1 HM
 go_wp2_with fail
 refine (width_is 30 1 rfl _).mono ?_
 rintro e w2 ⟨rfl, rfl⟩
 generalize w1.alloc _ = wa at *
 have c0 := H0.out.2.2.1.cell 0
 have c1 := H0.out.2.2.1.cell 1
 have c3 := H0.out.2.2.1.cell 3
 simp at c0 c1 c3
 go_wp2_with fail
 refine (sign1 (bs [40]) H0.out.2.1 (by have := HL.out; (try simp only [lna, lnc, lnn] at this |-); omega)).mono ?_
 rintro e w3 ⟨rfl, hk3, hm3⟩
 have H3 := zh (nwI (l := k.flat ++ (j.flat ++ l)) (o := o ++ [sg [40]]) H0.out hk3 hm3 (by decide) #[.string ⟨#[41]⟩] #[.string (bs [41])] rfl)
 have HB3 : Hid (Blk w3 w1.heap.size 42 #[.int .u8 30, .int .i64 2, .int .i64 0, .string (bs [])]) := zh (H0.out.2.2.1.kp hk3 H0.out.2.2.2 (by decide))
 clear hk3 hm3 c0 c1 c3
 have hlt3 := HB3.out.lt
 have c0 := HB3.out.cell 0
 have c1 := HB3.out.cell 1
 have c3 := HB3.out.cell 3
 simp at c0 c1 c3
 go_upto_region 5 with fail
 generalize w3.alloc _ = wb at *
 clear c0 c1 c3 hlt3
 have c0 := H3.out.2.2.1.cell 0
 have c1 := H3.out.2.2.1.cell 1
 have c3 := H3.out.2.2.1.cell 3
 simp at c0 c1 c3
 go_wp2_with fail
 refine (HE.out k HK.out.1.1 HK.out.1.2 g 1 _ _ _ (by omega) H3.out.2.1 (by have := HL.out; (try simp only [lna, lnc, lnn] at this |-); omega)).mono ?_
 rintro e w4 ⟨rfl, hk, hm⟩
 have H4 : Hid (Kp g w w4 ∧ WrM w4 g (j.flat ++ l) ((o ++ [sg [40]]) ++ sh k 1) ∧ Blk w4 w1.heap.size 42 #[.int .u8 30, .int .i64 2, .int .i64 0, .string (bs [])] ∧ Blk w4 w3.heap.size 9 #[.string (bs [41])]) := zh ⟨H3.out.1.trans hk, hm, H3.out.2.2.1.kp hk H0.out.2.2.2 (by decide), H3.out.2.2.2.1.kp hk H3.out.2.2.2.2 (by decide)⟩
 clear hk hm
 clear c0 c1 c3
 have c0 := H4.out.2.2.1.cell 0
 have c1 := H4.out.2.2.1.cell 1
 have c3 := H4.out.2.2.1.cell 3
 simp at c0 c1 c3
 go_wp2_with fail
 refine (between_any 30 g _ _ _ H4.out.2.1 (by have := HL.out; (try simp only [lna, lnc, lnn] at this |-); omega) (by omega)).mono ?_
 rintro e w5 ⟨rfl, hk, hm⟩
 have H5 : Hid (Kp g w w5 ∧ WrM w5 g (j.flat ++ l) (((o ++ [sg [40]]) ++ sh k 1) ++ [midT 30]) ∧ Blk w5 w1.heap.size 42 #[.int .u8 30, .int .i64 2, .int .i64 0, .string (bs [])] ∧ Blk w5 w3.heap.size 9 #[.string (bs [41])]) := zh ⟨H4.out.1.trans hk, hm, H4.out.2.2.1.kp hk H0.out.2.2.2 (by decide), H4.out.2.2.2.kp hk H3.out.2.2.2.2 (by decide)⟩
 clear hk hm
 clear c0 c1 c3
 have c0 := H5.out.2.2.1.cell 0
 have c1 := H5.out.2.2.1.cell 1
 have c3 := H5.out.2.2.1.cell 3
 simp at c0 c1 c3
 go_wp2_with fail
 refine (HE.out j HK.out.2.1 HK.out.2.2 g 2 _ _ _ (by omega) H5.out.2.1 (by have := HL.out; (try simp only [lna, lnc, lnn] at this |-); omega)).mono ?_
 rintro e w6 ⟨rfl, hk, hm⟩
 have H6 : Hid (Kp g w w6 ∧ WrM w6 g (l) ((((o ++ [sg [40]]) ++ sh k 1) ++ [midT 30]) ++ sh j 2) ∧ Blk w6 w1.heap.size 42 #[.int .u8 30, .int .i64 2, .int .i64 0, .string (bs [])] ∧ Blk w6 w3.heap.size 9 #[.string (bs [41])]) := zh ⟨H5.out.1.trans hk, hm, H5.out.2.2.1.kp hk H0.out.2.2.2 (by decide), H5.out.2.2.2.kp hk H3.out.2.2.2.2 (by decide)⟩
 clear hk hm
 go_wp2_with fail
 refine leaves_cons (f := 56) (args := #[gp g, .slice (some ⟨w3.heap.size, 0, none⟩) 1 1]) (by simp) (by simp [go_sem]) ?_
 refine (sign1_d w3.heap.size (bs [41]) .returning H6.out.2.1 H6.out.2.2.2 H3.out.2.2.2.2 (by have := HL.out; (try simp only [lna, lnc, lnn] at this |-); omega)).mono ?_
 rintro e u' w9 ⟨rfl, rfl, hk9, hm9⟩
 refine ⟨_, results_none rfl _ _ _, rfl, H6.out.1.trans hk9, ?_⟩
 rw [HSH.out]
 simpa only [List.append_assoc, sgB_sg] using hm9
theorem ex31b (N : Nat) (hE : ExprOk N) (hB : BlockOk N) (k j : Tr) (hk : Rt 0 k ∧ k.flat.length <= N) (hj : Rt 0 j ∧ j.flat.length <= N) (g a : Nat) (ha : 2 < a) (ha9 : a <= 9) (l : List Tw) (o : List Tz) (w : World) (hm : WrM w g ((Tr.flat (.node ⟨31, 2, 0, bs []⟩ [k, j])) ++ l) o) (ho : o.length + (sh (.node ⟨31, 2, 0, bs []⟩ [k, j]) a).length <= 1000000) :
 Calls prog 27 #[gp g, .int .i64 (a : Nat)] w (SPost w g l (o ++ sh (.node ⟨31, 2, 0, bs []⟩ [k, j]) a)) := by
 have HSH : Hid (sh (.node ⟨31, 2, 0, bs []⟩ [k, j]) a = [sg [40]] ++ (sh k 2 ++ ([midT 31] ++ (sh j 3)) ++ [sg [41]])) := zh (by
  rw [sh_expr _ _ (by omega), if_pos (by show  width 31 < a; have : width 31 = 2 := rfl; omega)]
  rw [shs_map]; rfl)
 have HL : Hid (o.length + ([sg [40]] ++ (sh k 2 ++ ([midT 31] ++ (sh j 3)) ++ [sg [41]])).length <= 1000000) := zh (by rw [<- HSH.out]; exact ho)
 have HM : Hid (WrM w g (⟨31, 2, 0, bs []⟩ :: (k.flat ++ (j.flat ++ l))) o) := zh (by simpa [Tr.flat, flats] using hm)
 have HE := zh hE
 have HB := zh hB
 have HK := zh (ai hk hj)
 clear hk hj
 clear hm ho hE hB
 have d : decide ((2 : Int) < (a : Int)) = true := dqt (by omega)
 go_enter_defers func27, ntmps27
 go_wp2_with fail
 refine (next_any g ⟨31, 2, 0, bs []⟩ (k.flat ++ (j.flat ++ l)) o w HM.out).mono ?_
 rintro e w1 ⟨rfl, hk1, hm1⟩
 have H0 := zh (nwH (l := k.flat ++ (j.flat ++ l)) (o := o) hk1 hm1 42 #[.int .u8 31, .int .i64 2, .int .i64 0, .string (bs [])])
 clear hk1 hm1 HM
 go_wp2_with fail
 refine (width_is 31 2 rfl _).mono ?_
 rintro e w2 ⟨rfl, rfl⟩
 generalize w1.alloc _ = wa at *
 have c0 := H0.out.2.2.1.cell 0
 have c1 := H0.out.2.2.1.cell 1
 have c3 := H0.out.2.2.1.cell 3
 simp at c0 c1 c3
 go_wp2_with fail
 refine (sign1 (bs [40]) H0.out.2.1 (by have := HL.out; (try simp only [lna, lnc, lnn] at this |-); omega)).mono ?_
 rintro e w3 ⟨rfl, hk3, hm3⟩
 have H3 := zh (nwI (l := k.flat ++ (j.flat ++ l)) (o := o ++ [sg [40]]) H0.out hk3 hm3 (by decide) #[.string ⟨#[41]⟩] #[.string (bs [41])] rfl)
 have HB3 : Hid (Blk w3 w1.heap.size 42 #[.int .u8 31, .int .i64 2, .int .i64 0, .string (bs [])]) := zh (H0.out.2.2.1.kp hk3 H0.out.2.2.2 (by decide))
 clear hk3 hm3 c0 c1 c3
 have hlt3 := HB3.out.lt
 have c0 := HB3.out.cell 0
 have c1 := HB3.out.cell 1
 have c3 := HB3.out.cell 3
 simp at c0 c1 c3
 go_upto_region 5 with fail
 generalize w3.alloc _ = wb at *
 clear c0 c1 c3 hlt3
 have c0 := H3.out.2.2.1.cell 0
 have c1 := H3.out.2.2.1.cell 1
 have c3 := H3.out.2.2.1.cell 3
 simp at c0 c1 c3
 go_wp2_with fail
 refine (HE.out k HK.out.1.1 HK.out.1.2 g 2 _ _ _ (by omega) H3.out.2.1 (by have := HL.out; (try simp only [lna, lnc, lnn] at this |-); omega)).mono ?_
 rintro e w4 ⟨rfl, hk, hm⟩
 have H4 : Hid (Kp g w w4 ∧ WrM w4 g (j.flat ++ l) ((o ++ [sg [40]]) ++ sh k 2) ∧ Blk w4 w1.heap.size 42 #[.int .u8 31, .int .i64 2, .int .i64 0, .string (bs [])] ∧ Blk w4 w3.heap.size 9 #[.string (bs [41])]) := zh ⟨H3.out.1.trans hk, hm, H3.out.2.2.1.kp hk H0.out.2.2.2 (by decide), H3.out.2.2.2.1.kp hk H3.out.2.2.2.2 (by decide)⟩
 clear hk hm
 clear c0 c1 c3
 have c0 := H4.out.2.2.1.cell 0
 have c1 := H4.out.2.2.1.cell 1
 have c3 := H4.out.2.2.1.cell 3
 simp at c0 c1 c3
 go_wp2_with fail
 refine (between_any 31 g _ _ _ H4.out.2.1 (by have := HL.out; (try simp only [lna, lnc, lnn] at this |-); omega) (by omega)).mono ?_
 rintro e w5 ⟨rfl, hk, hm⟩
 have H5 : Hid (Kp g w w5 ∧ WrM w5 g (j.flat ++ l) (((o ++ [sg [40]]) ++ sh k 2) ++ [midT 31]) ∧ Blk w5 w1.heap.size 42 #[.int .u8 31, .int .i64 2, .int .i64 0, .string (bs [])] ∧ Blk w5 w3.heap.size 9 #[.string (bs [41])]) := zh ⟨H4.out.1.trans hk, hm, H4.out.2.2.1.kp hk H0.out.2.2.2 (by decide), H4.out.2.2.2.kp hk H3.out.2.2.2.2 (by decide)⟩
 clear hk hm
 clear c0 c1 c3
 have c0 := H5.out.2.2.1.cell 0
 have c1 := H5.out.2.2.1.cell 1
 have c3 := H5.out.2.2.1.cell 3
 simp at c0 c1 c3
 go_wp2_with fail
 refine (HE.out j HK.out.2.1 HK.out.2.2 g 3 _ _ _ (by omega) H5.out.2.1 (by have := HL.out; (try simp only [lna, lnc, lnn] at this |-); omega)).mono ?_
 rintro e w6 ⟨rfl, hk, hm⟩
 have H6 : Hid (Kp g w w6 ∧ WrM w6 g (l) ((((o ++ [sg [40]]) ++ sh k 2) ++ [midT 31]) ++ sh j 3) ∧ Blk w6 w1.heap.size 42 #[.int .u8 31, .int .i64 2, .int .i64 0, .string (bs [])] ∧ Blk w6 w3.heap.size 9 #[.string (bs [41])]) := zh ⟨H5.out.1.trans hk, hm, H5.out.2.2.1.kp hk H0.out.2.2.2 (by decide), H5.out.2.2.2.kp hk H3.out.2.2.2.2 (by decide)⟩
 clear hk hm
 go_wp2_with fail
 refine leaves_cons (f := 56) (args := #[gp g, .slice (some ⟨w3.heap.size, 0, none⟩) 1 1]) (by simp) (by simp [go_sem]) ?_
 refine (sign1_d w3.heap.size (bs [41]) .returning H6.out.2.1 H6.out.2.2.2 H3.out.2.2.2.2 (by have := HL.out; (try simp only [lna, lnc, lnn] at this |-); omega)).mono ?_
 rintro e u' w9 ⟨rfl, rfl, hk9, hm9⟩
 refine ⟨_, results_none rfl _ _ _, rfl, H6.out.1.trans hk9, ?_⟩
 rw [HSH.out]
 simpa only [List.append_assoc, sgB_sg] using hm9
theorem ex36b (N : Nat) (hE : ExprOk N) (hB : BlockOk N) (k j : Tr) (hk : Rt 0 k ∧ k.flat.length <= N) (hj : Rt 0 j ∧ j.flat.length <= N) (g a : Nat) (ha : 5 < a) (ha9 : a <= 9) (l : List Tw) (o : List Tz) (w : World) (hm : WrM w g ((Tr.flat (.node ⟨36, 2, 0, bs []⟩ [k, j])) ++ l) o) (ho : o.length + (sh (.node ⟨36, 2, 0, bs []⟩ [k, j]) a).length <= 1000000) :
 Calls prog 27 #[gp g, .int .i64 (a : Nat)] w (SPost w g l (o ++ sh (.node ⟨36, 2, 0, bs []⟩ [k, j]) a)) := by
 have HSH : Hid (sh (.node ⟨36, 2, 0, bs []⟩ [k, j]) a = [sg [40]] ++ (sh k 5 ++ ([midT 36] ++ (sh j 6)) ++ [sg [41]])) := zh (by
  rw [sh_expr _ _ (by omega), if_pos (by show  width 36 < a; have : width 36 = 5 := rfl; omega)]
  rw [shs_map]; rfl)
 have HL : Hid (o.length + ([sg [40]] ++ (sh k 5 ++ ([midT 36] ++ (sh j 6)) ++ [sg [41]])).length <= 1000000) := zh (by rw [<- HSH.out]; exact ho)
 have HM : Hid (WrM w g (⟨36, 2, 0, bs []⟩ :: (k.flat ++ (j.flat ++ l))) o) := zh (by simpa [Tr.flat, flats] using hm)
 have HE := zh hE
 have HB := zh hB
 have HK := zh (ai hk hj)
 clear hk hj
 clear hm ho hE hB
 have d : decide ((5 : Int) < (a : Int)) = true := dqt (by omega)
 go_enter_defers func27, ntmps27
 go_wp2_with fail
 refine (next_any g ⟨36, 2, 0, bs []⟩ (k.flat ++ (j.flat ++ l)) o w HM.out).mono ?_
 rintro e w1 ⟨rfl, hk1, hm1⟩
 have H0 := zh (nwH (l := k.flat ++ (j.flat ++ l)) (o := o) hk1 hm1 42 #[.int .u8 36, .int .i64 2, .int .i64 0, .string (bs [])])
 clear hk1 hm1 HM
 go_wp2_with fail
 refine (width_is 36 5 rfl _).mono ?_
 rintro e w2 ⟨rfl, rfl⟩
 generalize w1.alloc _ = wa at *
 have c0 := H0.out.2.2.1.cell 0
 have c1 := H0.out.2.2.1.cell 1
 have c3 := H0.out.2.2.1.cell 3
 simp at c0 c1 c3
 go_wp2_with fail
 refine (sign1 (bs [40]) H0.out.2.1 (by have := HL.out; (try simp only [lna, lnc, lnn] at this |-); omega)).mono ?_
 rintro e w3 ⟨rfl, hk3, hm3⟩
 have H3 := zh (nwI (l := k.flat ++ (j.flat ++ l)) (o := o ++ [sg [40]]) H0.out hk3 hm3 (by decide) #[.string ⟨#[41]⟩] #[.string (bs [41])] rfl)
 have HB3 : Hid (Blk w3 w1.heap.size 42 #[.int .u8 36, .int .i64 2, .int .i64 0, .string (bs [])]) := zh (H0.out.2.2.1.kp hk3 H0.out.2.2.2 (by decide))
 clear hk3 hm3 c0 c1 c3
 have hlt3 := HB3.out.lt
 have c0 := HB3.out.cell 0
 have c1 := HB3.out.cell 1
 have c3 := HB3.out.cell 3
 simp at c0 c1 c3
 go_upto_region 5 with fail
 generalize w3.alloc _ = wb at *
 clear c0 c1 c3 hlt3
 have c0 := H3.out.2.2.1.cell 0
 have c1 := H3.out.2.2.1.cell 1
 have c3 := H3.out.2.2.1.cell 3
 simp at c0 c1 c3
 go_wp2_with fail
 refine (HE.out k HK.out.1.1 HK.out.1.2 g 5 _ _ _ (by omega) H3.out.2.1 (by have := HL.out; (try simp only [lna, lnc, lnn] at this |-); omega)).mono ?_
 rintro e w4 ⟨rfl, hk, hm⟩
 have H4 : Hid (Kp g w w4 ∧ WrM w4 g (j.flat ++ l) ((o ++ [sg [40]]) ++ sh k 5) ∧ Blk w4 w1.heap.size 42 #[.int .u8 36, .int .i64 2, .int .i64 0, .string (bs [])] ∧ Blk w4 w3.heap.size 9 #[.string (bs [41])]) := zh ⟨H3.out.1.trans hk, hm, H3.out.2.2.1.kp hk H0.out.2.2.2 (by decide), H3.out.2.2.2.1.kp hk H3.out.2.2.2.2 (by decide)⟩
 clear hk hm
 clear c0 c1 c3
 have c0 := H4.out.2.2.1.cell 0
 have c1 := H4.out.2.2.1.cell 1
 have c3 := H4.out.2.2.1.cell 3
 simp at c0 c1 c3
 go_wp2_with fail
 refine (between_any 36 g _ _ _ H4.out.2.1 (by have := HL.out; (try simp only [lna, lnc, lnn] at this |-); omega) (by omega)).mono ?_
 rintro e w5 ⟨rfl, hk, hm⟩
 have H5 : Hid (Kp g w w5 ∧ WrM w5 g (j.flat ++ l) (((o ++ [sg [40]]) ++ sh k 5) ++ [midT 36]) ∧ Blk w5 w1.heap.size 42 #[.int .u8 36, .int .i64 2, .int .i64 0, .string (bs [])] ∧ Blk w5 w3.heap.size 9 #[.string (bs [41])]) := zh ⟨H4.out.1.trans hk, hm, H4.out.2.2.1.kp hk H0.out.2.2.2 (by decide), H4.out.2.2.2.kp hk H3.out.2.2.2.2 (by decide)⟩
 clear hk hm
 clear c0 c1 c3
 have c0 := H5.out.2.2.1.cell 0
 have c1 := H5.out.2.2.1.cell 1
 have c3 := H5.out.2.2.1.cell 3
 simp at c0 c1 c3
 go_wp2_with fail
 refine (HE.out j HK.out.2.1 HK.out.2.2 g 6 _ _ _ (by omega) H5.out.2.1 (by have := HL.out; (try simp only [lna, lnc, lnn] at this |-); omega)).mono ?_
 rintro e w6 ⟨rfl, hk, hm⟩
 have H6 : Hid (Kp g w w6 ∧ WrM w6 g (l) ((((o ++ [sg [40]]) ++ sh k 5) ++ [midT 36]) ++ sh j 6) ∧ Blk w6 w1.heap.size 42 #[.int .u8 36, .int .i64 2, .int .i64 0, .string (bs [])] ∧ Blk w6 w3.heap.size 9 #[.string (bs [41])]) := zh ⟨H5.out.1.trans hk, hm, H5.out.2.2.1.kp hk H0.out.2.2.2 (by decide), H5.out.2.2.2.kp hk H3.out.2.2.2.2 (by decide)⟩
 clear hk hm
 go_wp2_with fail
 refine leaves_cons (f := 56) (args := #[gp g, .slice (some ⟨w3.heap.size, 0, none⟩) 1 1]) (by simp) (by simp [go_sem]) ?_
 refine (sign1_d w3.heap.size (bs [41]) .returning H6.out.2.1 H6.out.2.2.2 H3.out.2.2.2.2 (by have := HL.out; (try simp only [lna, lnc, lnn] at this |-); omega)).mono ?_
 rintro e u' w9 ⟨rfl, rfl, hk9, hm9⟩
 refine ⟨_, results_none rfl _ _ _, rfl, H6.out.1.trans hk9, ?_⟩
 rw [HSH.out]
 simpa only [List.append_assoc, sgB_sg] using hm9
theorem ex37b (N : Nat) (hE : ExprOk N) (hB : BlockOk N) (k j : Tr) (hk : Rt 0 k ∧ k.flat.length <= N) (hj : Rt 0 j ∧ j.flat.length <= N) (g a : Nat) (ha : 5 < a) (ha9 : a <= 9) (l : List Tw) (o : List Tz) (w : World) (hm : WrM w g ((Tr.flat (.node ⟨37, 2, 0, bs []⟩ [k, j])) ++ l) o) (ho : o.length + (sh (.node ⟨37, 2, 0, bs []⟩ [k, j]) a).length <= 1000000) :
 Calls prog 27 #[gp g, .int .i64 (a : Nat)] w (SPost w g l (o ++ sh (.node ⟨37, 2, 0, bs []⟩ [k, j]) a)) := by
 have HSH : Hid (sh (.node ⟨37, 2, 0, bs []⟩ [k, j]) a = [sg [40]] ++ (sh k 5 ++ ([midT 37] ++ (sh j 6)) ++ [sg [41]])) := zh (by
  rw [sh_expr _ _ (by omega), if_pos (by show  width 37 < a; have : width 37 = 5 := rfl; omega)]
  rw [shs_map]; rfl)
 have HL : Hid (o.length + ([sg [40]] ++ (sh k 5 ++ ([midT 37] ++ (sh j 6)) ++ [sg [41]])).length <= 1000000) := zh (by rw [<- HSH.out]; exact ho)
 have HM : Hid (WrM w g (⟨37, 2, 0, bs []⟩ :: (k.flat ++ (j.flat ++ l))) o) := zh (by simpa [Tr.flat, flats] using hm)
 have HE := zh hE
 have HB := zh hB
 have HK := zh (ai hk hj)
 clear hk hj
 clear hm ho hE hB
 have d : decide ((5 : Int) < (a : Int)) = true := dqt (by omega)
 go_enter_defers func27, ntmps27
 go_wp2_with fail
 refine (next_any g ⟨37, 2, 0, bs []⟩ (k.flat ++ (j.flat ++ l)) o w HM.out).mono ?_
 rintro e w1 ⟨rfl, hk1, hm1⟩
 have H0 := zh (nwH (l := k.flat ++ (j.flat ++ l)) (o := o) hk1 hm1 42 #[.int .u8 37, .int .i64 2, .int .i64 0, .string (bs [])])
 clear hk1 hm1 HM
 go_wp2_with fail
 refine (width_is 37 5 rfl _).mono ?_
 rintro e w2 ⟨rfl, rfl⟩
 generalize w1.alloc _ = wa at *
 have c0 := H0.out.2.2.1.cell 0
 have c1 := H0.out.2.2.1.cell 1
 have c3 := H0.out.2.2.1.cell 3
 simp at c0 c1 c3
 go_wp2_with fail
 refine (sign1 (bs [40]) H0.out.2.1 (by have := HL.out; (try simp only [lna, lnc, lnn] at this |-); omega)).mono ?_
 rintro e w3 ⟨rfl, hk3, hm3⟩
 have H3 := zh (nwI (l := k.flat ++ (j.flat ++ l)) (o := o ++ [sg [40]]) H0.out hk3 hm3 (by decide) #[.string ⟨#[41]⟩] #[.string (bs [41])] rfl)
 have HB3 : Hid (Blk w3 w1.heap.size 42 #[.int .u8 37, .int .i64 2, .int .i64 0, .string (bs [])]) := zh (H0.out.2.2.1.kp hk3 H0.out.2.2.2 (by decide))
 clear hk3 hm3 c0 c1 c3
 have hlt3 := HB3.out.lt
 have c0 := HB3.out.cell 0
 have c1 := HB3.out.cell 1
 have c3 := HB3.out.cell 3
 simp at c0 c1 c3
 go_upto_region 5 with fail
 generalize w3.alloc _ = wb at *
 clear c0 c1 c3 hlt3
 have c0 := H3.out.2.2.1.cell 0
 have c1 := H3.out.2.2.1.cell 1
 have c3 := H3.out.2.2.1.cell 3
 simp at c0 c1 c3
 go_wp2_with fail
 refine (HE.out k HK.out.1.1 HK.out.1.2 g 5 _ _ _ (by omega) H3.out.2.1 (by have := HL.out; (try simp only [lna, lnc, lnn] at this |-); omega)).mono ?_
 rintro e w4 ⟨rfl, hk, hm⟩
 have H4 : Hid (Kp g w w4 ∧ WrM w4 g (j.flat ++ l) ((o ++ [sg [40]]) ++ sh k 5) ∧ Blk w4 w1.heap.size 42 #[.int .u8 37, .int .i64 2, .int .i64 0, .string (bs [])] ∧ Blk w4 w3.heap.size 9 #[.string (bs [41])]) := zh ⟨H3.out.1.trans hk, hm, H3.out.2.2.1.kp hk H0.out.2.2.2 (by decide), H3.out.2.2.2.1.kp hk H3.out.2.2.2.2 (by decide)⟩
 clear hk hm
 clear c0 c1 c3
 have c0 := H4.out.2.2.1.cell 0
 have c1 := H4.out.2.2.1.cell 1
 have c3 := H4.out.2.2.1.cell 3
 simp at c0 c1 c3
 go_wp2_with fail
 refine (between_any 37 g _ _ _ H4.out.2.1 (by have := HL.out; (try simp only [lna, lnc, lnn] at this |-); omega) (by omega)).mono ?_
 rintro e w5 ⟨rfl, hk, hm⟩
 have H5 : Hid (Kp g w w5 ∧ WrM w5 g (j.flat ++ l) (((o ++ [sg [40]]) ++ sh k 5) ++ [midT 37]) ∧ Blk w5 w1.heap.size 42 #[.int .u8 37, .int .i64 2, .int .i64 0, .string (bs [])] ∧ Blk w5 w3.heap.size 9 #[.string (bs [41])]) := zh ⟨H4.out.1.trans hk, hm, H4.out.2.2.1.kp hk H0.out.2.2.2 (by decide), H4.out.2.2.2.kp hk H3.out.2.2.2.2 (by decide)⟩
 clear hk hm
 clear c0 c1 c3
 have c0 := H5.out.2.2.1.cell 0
 have c1 := H5.out.2.2.1.cell 1
 have c3 := H5.out.2.2.1.cell 3
 simp at c0 c1 c3
 go_wp2_with fail
 refine (HE.out j HK.out.2.1 HK.out.2.2 g 6 _ _ _ (by omega) H5.out.2.1 (by have := HL.out; (try simp only [lna, lnc, lnn] at this |-); omega)).mono ?_
 rintro e w6 ⟨rfl, hk, hm⟩
 have H6 : Hid (Kp g w w6 ∧ WrM w6 g (l) ((((o ++ [sg [40]]) ++ sh k 5) ++ [midT 37]) ++ sh j 6) ∧ Blk w6 w1.heap.size 42 #[.int .u8 37, .int .i64 2, .int .i64 0, .string (bs [])] ∧ Blk w6 w3.heap.size 9 #[.string (bs [41])]) := zh ⟨H5.out.1.trans hk, hm, H5.out.2.2.1.kp hk H0.out.2.2.2 (by decide), H5.out.2.2.2.kp hk H3.out.2.2.2.2 (by decide)⟩
 clear hk hm
 go_wp2_with fail
 refine leaves_cons (f := 56) (args := #[gp g, .slice (some ⟨w3.heap.size, 0, none⟩) 1 1]) (by simp) (by simp [go_sem]) ?_
 refine (sign1_d w3.heap.size (bs [41]) .returning H6.out.2.1 H6.out.2.2.2 H3.out.2.2.2.2 (by have := HL.out; (try simp only [lna, lnc, lnn] at this |-); omega)).mono ?_
 rintro e u' w9 ⟨rfl, rfl, hk9, hm9⟩
 refine ⟨_, results_none rfl _ _ _, rfl, H6.out.1.trans hk9, ?_⟩
 rw [HSH.out]
 simpa only [List.append_assoc, sgB_sg] using hm9
theorem ex38b (N : Nat) (hE : ExprOk N) (hB : BlockOk N) (k j : Tr) (hk : Rt 0 k ∧ k.flat.length <= N) (hj : Rt 0 j ∧ j.flat.length <= N) (g a : Nat) (ha : 6 < a) (ha9 : a <= 9) (l : List Tw) (o : List Tz) (w : World) (hm : WrM w g ((Tr.flat (.node ⟨38, 2, 0, bs []⟩ [k, j])) ++ l) o) (ho : o.length + (sh (.node ⟨38, 2, 0, bs []⟩ [k, j]) a).length <= 1000000) :
 Calls prog 27 #[gp g, .int .i64 (a : Nat)] w (SPost w g l (o ++ sh (.node ⟨38, 2, 0, bs []⟩ [k, j]) a)) := by
 have HSH : Hid (sh (.node ⟨38, 2, 0, bs []⟩ [k, j]) a = [sg [40]] ++ (sh k 6 ++ ([midT 38] ++ (sh j 7)) ++ [sg [41]])) := zh (by
  rw [sh_expr _ _ (by omega), if_pos (by show  width 38 < a; have : width 38 = 6 := rfl; omega)]
  rw [shs_map]; rfl)
 have HL : Hid (o.length + ([sg [40]] ++ (sh k 6 ++ ([midT 38] ++ (sh j 7)) ++ [sg [41]])).length <= 1000000) := zh (by rw [<- HSH.out]; exact ho)
 have HM : Hid (WrM w g (⟨38, 2, 0, bs []⟩ :: (k.flat ++ (j.flat ++ l))) o) := zh (by simpa [Tr.flat, flats] using hm)
 have HE := zh hE
 have HB := zh hB
 have HK := zh (ai hk hj)
 clear hk hj
 clear hm ho hE hB
 have d : decide ((6 : Int) < (a : Int)) = true := dqt (by omega)
 go_enter_defers func27, ntmps27
 go_wp2_with fail
 refine (next_any g ⟨38, 2, 0, bs []⟩ (k.flat ++ (j.flat ++ l)) o w HM.out).mono ?_
 rintro e w1 ⟨rfl, hk1, hm1⟩
 have H0 := zh (nwH (l := k.flat ++ (j.flat ++ l)) (o := o) hk1 hm1 42 #[.int .u8 38, .int .i64 2, .int .i64 0, .string (bs [])])
 clear hk1 hm1 HM
 go_wp2_with fail
 refine (width_is 38 6 rfl _).mono ?_
 rintro e w2 ⟨rfl, rfl⟩
 generalize w1.alloc _ = wa at *
 have c0 := H0.out.2.2.1.cell 0
 have c1 := H0.out.2.2.1.cell 1
 have c3 := H0.out.2.2.1.cell 3
 simp at c0 c1 c3
 go_wp2_with fail
 refine (sign1 (bs [40]) H0.out.2.1 (by have := HL.out; (try simp only [lna, lnc, lnn] at this |-); omega)).mono ?_
 rintro e w3 ⟨rfl, hk3, hm3⟩
 have H3 := zh (nwI (l := k.flat ++ (j.flat ++ l)) (o := o ++ [sg [40]]) H0.out hk3 hm3 (by decide) #[.string ⟨#[41]⟩] #[.string (bs [41])] rfl)
 have HB3 : Hid (Blk w3 w1.heap.size 42 #[.int .u8 38, .int .i64 2, .int .i64 0, .string (bs [])]) := zh (H0.out.2.2.1.kp hk3 H0.out.2.2.2 (by decide))
 clear hk3 hm3 c0 c1 c3
 have hlt3 := HB3.out.lt
 have c0 := HB3.out.cell 0
 have c1 := HB3.out.cell 1
 have c3 := HB3.out.cell 3
 simp at c0 c1 c3
 go_upto_region 5 with fail
 generalize w3.alloc _ = wb at *
 clear c0 c1 c3 hlt3
 have c0 := H3.out.2.2.1.cell 0
 have c1 := H3.out.2.2.1.cell 1
 have c3 := H3.out.2.2.1.cell 3
 simp at c0 c1 c3
 go_wp2_with fail
 refine (HE.out k HK.out.1.1 HK.out.1.2 g 6 _ _ _ (by omega) H3.out.2.1 (by have := HL.out; (try simp only [lna, lnc, lnn] at this |-); omega)).mono ?_
 rintro e w4 ⟨rfl, hk, hm⟩
 have H4 : Hid (Kp g w w4 ∧ WrM w4 g (j.flat ++ l) ((o ++ [sg [40]]) ++ sh k 6) ∧ Blk w4 w1.heap.size 42 #[.int .u8 38, .int .i64 2, .int .i64 0, .string (bs [])] ∧ Blk w4 w3.heap.size 9 #[.string (bs [41])]) := zh ⟨H3.out.1.trans hk, hm, H3.out.2.2.1.kp hk H0.out.2.2.2 (by decide), H3.out.2.2.2.1.kp hk H3.out.2.2.2.2 (by decide)⟩
 clear hk hm
 clear c0 c1 c3
 have c0 := H4.out.2.2.1.cell 0
 have c1 := H4.out.2.2.1.cell 1
 have c3 := H4.out.2.2.1.cell 3
 simp at c0 c1 c3
 go_wp2_with fail
 refine (between_any 38 g _ _ _ H4.out.2.1 (by have := HL.out; (try simp only [lna, lnc, lnn] at this |-); omega) (by omega)).mono ?_
 rintro e w5 ⟨rfl, hk, hm⟩
 have H5 : Hid (Kp g w w5 ∧ WrM w5 g (j.flat ++ l) (((o ++ [sg [40]]) ++ sh k 6) ++ [midT 38]) ∧ Blk w5 w1.heap.size 42 #[.int .u8 38, .int .i64 2, .int .i64 0, .string (bs [])] ∧ Blk w5 w3.heap.size 9 #[.string (bs [41])]) := zh ⟨H4.out.1.trans hk, hm, H4.out.2.2.1.kp hk H0.out.2.2.2 (by decide), H4.out.2.2.2.kp hk H3.out.2.2.2.2 (by decide)⟩
 clear hk hm
 clear c0 c1 c3
 have c0 := H5.out.2.2.1.cell 0
 have c1 := H5.out.2.2.1.cell 1
 have c3 := H5.out.2.2.1.cell 3
 simp at c0 c1 c3
 go_wp2_with fail
 refine (HE.out j HK.out.2.1 HK.out.2.2 g 7 _ _ _ (by omega) H5.out.2.1 (by have := HL.out; (try simp only [lna, lnc, lnn] at this |-); omega)).mono ?_
 rintro e w6 ⟨rfl, hk, hm⟩
 have H6 : Hid (Kp g w w6 ∧ WrM w6 g (l) ((((o ++ [sg [40]]) ++ sh k 6) ++ [midT 38]) ++ sh j 7) ∧ Blk w6 w1.heap.size 42 #[.int .u8 38, .int .i64 2, .int .i64 0, .string (bs [])] ∧ Blk w6 w3.heap.size 9 #[.string (bs [41])]) := zh ⟨H5.out.1.trans hk, hm, H5.out.2.2.1.kp hk H0.out.2.2.2 (by decide), H5.out.2.2.2.kp hk H3.out.2.2.2.2 (by decide)⟩
 clear hk hm
 go_wp2_with fail
 refine leaves_cons (f := 56) (args := #[gp g, .slice (some ⟨w3.heap.size, 0, none⟩) 1 1]) (by simp) (by simp [go_sem]) ?_
 refine (sign1_d w3.heap.size (bs [41]) .returning H6.out.2.1 H6.out.2.2.2 H3.out.2.2.2.2 (by have := HL.out; (try simp only [lna, lnc, lnn] at this |-); omega)).mono ?_
 rintro e u' w9 ⟨rfl, rfl, hk9, hm9⟩
 refine ⟨_, results_none rfl _ _ _, rfl, H6.out.1.trans hk9, ?_⟩
 rw [HSH.out]
 simpa only [List.append_assoc, sgB_sg] using hm9
theorem ex39b (N : Nat) (hE : ExprOk N) (hB : BlockOk N) (k j : Tr) (hk : Rt 0 k ∧ k.flat.length <= N) (hj : Rt 0 j ∧ j.flat.length <= N) (g a : Nat) (ha : 6 < a) (ha9 : a <= 9) (l : List Tw) (o : List Tz) (w : World) (hm : WrM w g ((Tr.flat (.node ⟨39, 2, 0, bs []⟩ [k, j])) ++ l) o) (ho : o.length + (sh (.node ⟨39, 2, 0, bs []⟩ [k, j]) a).length <= 1000000) :
 Calls prog 27 #[gp g, .int .i64 (a : Nat)] w (SPost w g l (o ++ sh (.node ⟨39, 2, 0, bs []⟩ [k, j]) a)) := by
 have HSH : Hid (sh (.node ⟨39, 2, 0, bs []⟩ [k, j]) a = [sg [40]] ++ (sh k 6 ++ ([midT 39] ++ (sh j 7)) ++ [sg [41]])) := zh (by
  rw [sh_expr _ _ (by omega), if_pos (by show  width 39 < a; have : width 39 = 6 := rfl; omega)]
  rw [shs_map]; rfl)
 have HL : Hid (o.length + ([sg [40]] ++ (sh k 6 ++ ([midT 39] ++ (sh j 7)) ++ [sg [41]])).length <= 1000000) := zh (by rw [<- HSH.out]; exact ho)
 have HM : Hid (WrM w g (⟨39, 2, 0, bs []⟩ :: (k.flat ++ (j.flat ++ l))) o) := zh (by simpa [Tr.flat, flats] using hm)
 have HE := zh hE
 have HB := zh hB
 have HK := zh (ai hk hj)
 clear hk hj
 clear hm ho hE hB
 have d : decide ((6 : Int) < (a : Int)) = true := dqt (by omega)
 go_enter_defers func27, ntmps27
 go_wp2_with fail
 refine (next_any g ⟨39, 2, 0, bs []⟩ (k.flat ++ (j.flat ++ l)) o w HM.out).mono ?_
 rintro e w1 ⟨rfl, hk1, hm1⟩
 have H0 := zh (nwH (l := k.flat ++ (j.flat ++ l)) (o := o) hk1 hm1 42 #[.int .u8 39, .int .i64 2, .int .i64 0, .string (bs [])])
 clear hk1 hm1 HM
 go_wp2_with fail
 refine (width_is 39 6 rfl _).mono ?_
 rintro e w2 ⟨rfl, rfl⟩
 generalize w1.alloc _ = wa at *
 have c0 := H0.out.2.2.1.cell 0
 have c1 := H0.out.2.2.1.cell 1
 have c3 := H0.out.2.2.1.cell 3
 simp at c0 c1 c3
 go_wp2_with fail
 refine (sign1 (bs [40]) H0.out.2.1 (by have := HL.out; (try simp only [lna, lnc, lnn] at this |-); omega)).mono ?_
 rintro e w3 ⟨rfl, hk3, hm3⟩
 have H3 := zh (nwI (l := k.flat ++ (j.flat ++ l)) (o := o ++ [sg [40]]) H0.out hk3 hm3 (by decide) #[.string ⟨#[41]⟩] #[.string (bs [41])] rfl)
 have HB3 : Hid (Blk w3 w1.heap.size 42 #[.int .u8 39, .int .i64 2, .int .i64 0, .string (bs [])]) := zh (H0.out.2.2.1.kp hk3 H0.out.2.2.2 (by decide))
 clear hk3 hm3 c0 c1 c3
 have hlt3 := HB3.out.lt
 have c0 := HB3.out.cell 0
 have c1 := HB3.out.cell 1
 have c3 := HB3.out.cell 3
 simp at c0 c1 c3
 go_upto_region 5 with fail
 generalize w3.alloc _ = wb at *
 clear c0 c1 c3 hlt3
 have c0 := H3.out.2.2.1.cell 0
 have c1 := H3.out.2.2.1.cell 1
 have c3 := H3.out.2.2.1.cell 3
 simp at c0 c1 c3
 go_wp2_with fail
 refine (HE.out k HK.out.1.1 HK.out.1.2 g 6 _ _ _ (by omega) H3.out.2.1 (by have := HL.out; (try simp only [lna, lnc, lnn] at this |-); omega)).mono ?_
 rintro e w4 ⟨rfl, hk, hm⟩
 have H4 : Hid (Kp g w w4 ∧ WrM w4 g (j.flat ++ l) ((o ++ [sg [40]]) ++ sh k 6) ∧ Blk w4 w1.heap.size 42 #[.int .u8 39, .int .i64 2, .int .i64 0, .string (bs [])] ∧ Blk w4 w3.heap.size 9 #[.string (bs [41])]) := zh ⟨H3.out.1.trans hk, hm, H3.out.2.2.1.kp hk H0.out.2.2.2 (by decide), H3.out.2.2.2.1.kp hk H3.out.2.2.2.2 (by decide)⟩
 clear hk hm
 clear c0 c1 c3
 have c0 := H4.out.2.2.1.cell 0
 have c1 := H4.out.2.2.1.cell 1
 have c3 := H4.out.2.2.1.cell 3
 simp at c0 c1 c3
 go_wp2_with fail
 refine (between_any 39 g _ _ _ H4.out.2.1 (by have := HL.out; (try simp only [lna, lnc, lnn] at this |-); omega) (by omega)).mono ?_
 rintro e w5 ⟨rfl, hk, hm⟩
 have H5 : Hid (Kp g w w5 ∧ WrM w5 g (j.flat ++ l) (((o ++ [sg [40]]) ++ sh k 6) ++ [midT 39]) ∧ Blk w5 w1.heap.size 42 #[.int .u8 39, .int .i64 2, .int .i64 0, .string (bs [])] ∧ Blk w5 w3.heap.size 9 #[.string (bs [41])]) := zh ⟨H4.out.1.trans hk, hm, H4.out.2.2.1.kp hk H0.out.2.2.2 (by decide), H4.out.2.2.2.kp hk H3.out.2.2.2.2 (by decide)⟩
 clear hk hm
 clear c0 c1 c3
 have c0 := H5.out.2.2.1.cell 0
 have c1 := H5.out.2.2.1.cell 1
 have c3 := H5.out.2.2.1.cell 3
 simp at c0 c1 c3
 go_wp2_with fail
 refine (HE.out j HK.out.2.1 HK.out.2.2 g 7 _ _ _ (by omega) H5.out.2.1 (by have := HL.out; (try simp only [lna, lnc, lnn] at this |-); omega)).mono ?_
 rintro e w6 ⟨rfl, hk, hm⟩
 have H6 : Hid (Kp g w w6 ∧ WrM w6 g (l) ((((o ++ [sg [40]]) ++ sh k 6) ++ [midT 39]) ++ sh j 7) ∧ Blk w6 w1.heap.size 42 #[.int .u8 39, .int .i64 2, .int .i64 0, .string (bs [])] ∧ Blk w6 w3.heap.size 9 #[.string (bs [41])]) := zh ⟨H5.out.1.trans hk, hm, H5.out.2.2.1.kp hk H0.out.2.2.2 (by decide), H5.out.2.2.2.kp hk H3.out.2.2.2.2 (by decide)⟩
 clear hk hm
 go_wp2_with fail
 refine leaves_cons (f := 56) (args := #[gp g, .slice (some ⟨w3.heap.size, 0, none⟩) 1 1]) (by simp) (by simp [go_sem]) ?_
 refine (sign1_d w3.heap.size (bs [41]) .returning H6.out.2.1 H6.out.2.2.2 H3.out.2.2.2.2 (by have := HL.out; (try simp only [lna, lnc, lnn] at this |-); omega)).mono ?_
 rintro e u' w9 ⟨rfl, rfl, hk9, hm9⟩
 refine ⟨_, results_none rfl _ _ _, rfl, H6.out.1.trans hk9, ?_⟩
 rw [HSH.out]
 simpa only [List.append_assoc, sgB_sg] using hm9
theorem ex40b (N : Nat) (hE : ExprOk N) (hB : BlockOk N) (k j : Tr) (hk : Rt 0 k ∧ k.flat.length <= N) (hj : Rt 0 j ∧ j.flat.length <= N) (g a : Nat) (ha : 6 < a) (ha9 : a <= 9) (l : List Tw) (o : List Tz) (w : World) (hm : WrM w g ((Tr.flat (.node ⟨40, 2, 0, bs []⟩ [k, j])) ++ l) o) (ho : o.length + (sh (.node ⟨40, 2, 0, bs []⟩ [k, j]) a).length <= 1000000) :
 Calls prog 27 #[gp g, .int .i64 (a : Nat)] w (SPost w g l (o ++ sh (.node ⟨40, 2, 0, bs []⟩ [k, j]) a)) := by
 have HSH : Hid (sh (.node ⟨40, 2, 0, bs []⟩ [k, j]) a = [sg [40]] ++ (sh k 6 ++ ([midT 40] ++ (sh j 7)) ++ [sg [41]])) := zh (by
  rw [sh_expr _ _ (by omega), if_pos (by show  width 40 < a; have : width 40 = 6 := rfl; omega)]
  rw [shs_map]; rfl)
 have HL : Hid (o.length + ([sg [40]] ++ (sh k 6 ++ ([midT 40] ++ (sh j 7)) ++ [sg [41]])).length <= 1000000) := zh (by rw [<- HSH.out]; exact ho)
 have HM : Hid (WrM w g (⟨40, 2, 0, bs []⟩ :: (k.flat ++ (j.flat ++ l))) o) := zh (by simpa [Tr.flat, flats] using hm)
 have HE := zh hE
 have HB := zh hB
 have HK := zh (ai hk hj)
 clear hk hj
 clear hm ho hE hB
 have d : decide ((6 : Int) < (a : Int)) = true := dqt (by omega)
 go_enter_defers func27, ntmps27
 go_wp2_with fail
 refine (next_any g ⟨40, 2, 0, bs []⟩ (k.flat ++ (j.flat ++ l)) o w HM.out).mono ?_
 rintro e w1 ⟨rfl, hk1, hm1⟩
 have H0 := zh (nwH (l := k.flat ++ (j.flat ++ l)) (o := o) hk1 hm1 42 #[.int .u8 40, .int .i64 2, .int .i64 0, .string (bs [])])
 clear hk1 hm1 HM
 go_wp2_with fail
 refine (width_is 40 6 rfl _).mono ?_
 rintro e w2 ⟨rfl, rfl⟩
 generalize w1.alloc _ = wa at *
 have c0 := H0.out.2.2.1.cell 0
 have c1 := H0.out.2.2.1.cell 1
 have c3 := H0.out.2.2.1.cell 3
 simp at c0 c1 c3
 go_wp2_with fail
 refine (sign1 (bs [40]) H0.out.2.1 (by have := HL.out; (try simp only [lna, lnc, lnn] at this |-); omega)).mono ?_
 rintro e w3 ⟨rfl, hk3, hm3⟩
 have H3 := zh (nwI (l := k.flat ++ (j.flat ++ l)) (o := o ++ [sg [40]]) H0.out hk3 hm3 (by decide) #[.string ⟨#[41]⟩] #[.string (bs [41])] rfl)
 have HB3 : Hid (Blk w3 w1.heap.size 42 #[.int .u8 40, .int .i64 2, .int .i64 0, .string (bs [])]) := zh (H0.out.2.2.1.kp hk3 H0.out.2.2.2 (by decide))
 clear hk3 hm3 c0 c1 c3
 have hlt3 := HB3.out.lt
 have c0 := HB3.out.cell 0
 have c1 := HB3.out.cell 1
 have c3 := HB3.out.cell 3
 simp at c0 c1 c3
 go_upto_region 5 with fail
 generalize w3.alloc _ = wb at *
 clear c0 c1 c3 hlt3
 have c0 := H3.out.2.2.1.cell 0
 have c1 := H3.out.2.2.1.cell 1
 have c3 := H3.out.2.2.1.cell 3
 simp at c0 c1 c3
 go_wp2_with fail
 refine (HE.out k HK.out.1.1 HK.out.1.2 g 6 _ _ _ (by omega) H3.out.2.1 (by have := HL.out; (try simp only [lna, lnc, lnn] at this |-); omega)).mono ?_
 rintro e w4 ⟨rfl, hk, hm⟩
 have H4 : Hid (Kp g w w4 ∧ WrM w4 g (j.flat ++ l) ((o ++ [sg [40]]) ++ sh k 6) ∧ Blk w4 w1.heap.size 42 #[.int .u8 40, .int .i64 2, .int .i64 0, .string (bs [])] ∧ Blk w4 w3.heap.size 9 #[.string (bs [41])]) := zh ⟨H3.out.1.trans hk, hm, H3.out.2.2.1.kp hk H0.out.2.2.2 (by decide), H3.out.2.2.2.1.kp hk H3.out.2.2.2.2 (by decide)⟩
 clear hk hm
 clear c0 c1 c3
 have c0 := H4.out.2.2.1.cell 0
 have c1 := H4.out.2.2.1.cell 1
 have c3 := H4.out.2.2.1.cell 3
 simp at c0 c1 c3
 go_wp2_with fail
 refine (between_any 40 g _ _ _ H4.out.2.1 (by have := HL.out; (try simp only [lna, lnc, lnn] at this |-); omega) (by omega)).mono ?_
 rintro e w5 ⟨rfl, hk, hm⟩
 have H5 : Hid (Kp g w w5 ∧ WrM w5 g (j.flat ++ l) (((o ++ [sg [40]]) ++ sh k 6) ++ [midT 40]) ∧ Blk w5 w1.heap.size 42 #[.int .u8 40, .int .i64 2, .int .i64 0, .string (bs [])] ∧ Blk w5 w3.heap.size 9 #[.string (bs [41])]) := zh ⟨H4.out.1.trans hk, hm, H4.out.2.2.1.kp hk H0.out.2.2.2 (by decide), H4.out.2.2.2.kp hk H3.out.2.2.2.2 (by decide)⟩
 clear hk hm
 clear c0 c1 c3
 have c0 := H5.out.2.2.1.cell 0
 have c1 := H5.out.2.2.1.cell 1
 have c3 := H5.out.2.2.1.cell 3
 simp at c0 c1 c3
 go_wp2_with fail
 refine (HE.out j HK.out.2.1 HK.out.2.2 g 7 _ _ _ (by omega) H5.out.2.1 (by have := HL.out; (try simp only [lna, lnc, lnn] at this |-); omega)).mono ?_
 rintro e w6 ⟨rfl, hk, hm⟩
 have H6 : Hid (Kp g w w6 ∧ WrM w6 g (l) ((((o ++ [sg [40]]) ++ sh k 6) ++ [midT 40]) ++ sh j 7) ∧ Blk w6 w1.heap.size 42 #[.int .u8 40, .int .i64 2, .int .i64 0, .string (bs [])] ∧ Blk w6 w3.heap.size 9 #[.string (bs [41])]) := zh ⟨H5.out.1.trans hk, hm, H5.out.2.2.1.kp hk H0.out.2.2.2 (by decide), H5.out.2.2.2.kp hk H3.out.2.2.2.2 (by decide)⟩
 clear hk hm
 go_wp2_with fail
 refine leaves_cons (f := 56) (args := #[gp g, .slice (some ⟨w3.heap.size, 0, none⟩) 1 1]) (by simp) (by simp [go_sem]) ?_
 refine (sign1_d w3.heap.size (bs [41]) .returning H6.out.2.1 H6.out.2.2.2 H3.out.2.2.2.2 (by have := HL.out; (try simp only [lna, lnc, lnn] at this |-); omega)).mono ?_
 rintro e u' w9 ⟨rfl, rfl, hk9, hm9⟩
 refine ⟨_, results_none rfl _ _ _, rfl, H6.out.1.trans hk9, ?_⟩
 rw [HSH.out]
 simpa only [List.append_assoc, sgB_sg] using hm9
theorem below_drew_alloc (w : World) (ob : Obj) : Below w.heap.size w (w.drew.alloc ob) := ((Below.refl _ _).drew).alloc (nlr _) _
theorem ex23 (iv : Int) (g a : Nat) (ha : a <= 9) (l : List Tw) (o : List Tz) (w : World) (hm : WrM w g ((Tr.flat (.node ⟨23, 0, iv, bs []⟩ [])) ++ l) o) (ho : o.length + (sh (.node ⟨23, 0, iv, bs []⟩ []) a).length <= 1000000) :
 Calls prog 27 #[gp g, .int .i64 (a : Nat)] w (SPost w g l (o ++ sh (.node ⟨23, 0, iv, bs []⟩ []) a)) := by
 have HSH : Hid (sh (.node ⟨23, 0, iv, bs []⟩ []) a = [⟨2, bs [], iv, 0⟩]) := zh (by
  rw [sh_expr _ _ (by omega), if_neg (by show ¬ width 23 < a; have : width 23 = 9 := rfl; omega)]
  rfl)
 have HL : o.length + 1 <= 1000000 := by rw [HSH.out] at ho; exact ho
 have HM : Hid (WrM w g (⟨23, 0, iv, bs []⟩ :: l) o) := zh (by simpa [Tr.flat, flats] using hm)
 clear hm ho
 have d : decide ((9 : Int) < (a : Int)) = false := dqf (by omega)
 go_enter_defers func27, ntmps27
 go_wp2_with fail
 refine (next_any g ⟨23, 0, iv, bs []⟩ l o w HM.out).mono ?_
 rintro e w1 ⟨rfl, hk1, hm1⟩
 have H0 := zh (nwH (l := l) (o := o) hk1 hm1 42 #[.int .u8 23, .int .i64 0, .int .i64 iv, .string (bs [])])
 clear hk1 hm1 HM
 go_wp2_with fail
 refine (width_is 23 9 rfl _).mono ?_
 rintro e w2 ⟨rfl, rfl⟩
 generalize w1.alloc _ = wa at *
 have c0 := H0.out.2.2.1.cell 0
 simp at c0
 obtain ⟨n, hn⟩ := ex o.length
 have HN := zh hn
 rw [<- hn] at HL
 clear hn
 have hg : g < wa.heap.size := H0.out.2.1.lt
 obtain ⟨Ao, co, k1, hown, hput⟩ := (H0.out.2.1.below (below_drew_alloc wa (.cells #[.int .u8 2, .string ⟨#[]⟩, .int .i64 iv, .int .i64 0] 35))).out_
 rw [<- HN.out] at k1 hown hput
 have HP := zh (ai hown hput)
 have HK : Hid (wa.cell? ⟨g, 1, none⟩ = some (.slice Ao n co)) := zh ((World.cell?_alloc_lt wa.drew _ ⟨g, 1, none⟩ hg).symm.trans k1)
 have HX : Hid (wa.cell? ⟨w1.heap.size, 2, none⟩ = some (.int .i64 iv)) := zh (by rw [H0.out.2.2.1.cell 2]; rfl)
 have HR : Hid (RdZ (wa.drew.alloc (.cells #[.int .u8 2, .string ⟨#[]⟩, .int .i64 iv, .int .i64 0] 35)) (some ⟨wa.heap.size, 0, none⟩) [⟨2, bs [], iv, 0⟩]) := zh (rdz_one (x := ⟨2, bs [], iv, 0⟩) (Blk.new wa.drew 35 _))
 clear k1 hown hput
 go_upto_region 18 with fail
 have HF6 : Hid (∀ X, Below wa.heap.size wa X -> (fun X => Hid (X.cell? ⟨g, 1, none⟩ = some (.slice Ao n co) ∧ X.cell? ⟨w1.heap.size, 2, none⟩ = some (.int .i64 iv))) X) := zh (fun X hX => zh ⟨(hX.cell (p := ⟨g, 1, none⟩) hg).trans HK.out, (hX.cell (p := ⟨w1.heap.size, 2, none⟩) H0.out.2.2.1.lt).trans HX.out⟩)
 refine wp_region_plan (.q 0 (.q 1 (.q 2 (.q 3 (.q 4 (.q 5 (.q 6 (.q 7 (.a1 8 (.a1 9 (.q 10 (.q 11 (.a1 12 .fin))))))))))))) 12 (fun X => Hid (X.cell? ⟨g, 1, none⟩ = some (.slice Ao n co) ∧ X.cell? ⟨w1.heap.size, 2, none⟩ = some (.int .i64 iv))) (by kernel_rfl) rfl (by kernel_rfl) (HF6.out _ (Below.refl _ _).drew) ?_
 refine wpPlan_q rfl rfl rfl ?_; intro K hK
 go_big_quiet_op
 first | go_big_quiet_on | (refine ⟨_, fun _ _ => rfl, ?_⟩; go_big_quiet_on)
 refine wpPlan_q rfl rfl rfl ?_; intro K hK
 go_big_quiet_op
 first | go_big_quiet_on | (refine ⟨_, fun _ _ => rfl, ?_⟩; go_big_quiet_on)
 refine wpPlan_q rfl rfl rfl ?_; intro K hK
 go_big_quiet_op
 first | go_big_quiet_on | (refine ⟨_, fun _ _ => rfl, ?_⟩; go_big_quiet_on)
 refine wpPlan_q rfl rfl rfl ?_; intro K hK
 go_big_quiet_op
 first | go_big_quiet_on | (refine ⟨_, fun _ _ => rfl, ?_⟩; go_big_quiet_on)
 refine wpPlan_q rfl rfl rfl ?_; intro K hK
 refine ⟨(.slice Ao n co), fun W hW => ?_, ?_⟩
 . have q0 := hW.out.1
   unfold Oper.quietAt Oper.quietUpon
   simp [go_sem, q0]
 refine hK _ ?_
 clear hK K
 try simp only [Act.put, List.setIfInBounds_toArray, List.set_cons_succ, List.set_cons_zero]
 refine wpPlan_q rfl rfl rfl ?_; intro K hK
 go_big_quiet_op
 first | go_big_quiet_on | (refine ⟨_, fun _ _ => rfl, ?_⟩; go_big_quiet_on)
 refine wpPlan_q rfl rfl rfl ?_; intro K hK
 refine ⟨(.int .i64 iv), fun W hW => ?_, ?_⟩
 . have q0 := hW.out.2
   unfold Oper.quietAt Oper.quietUpon
   simp [go_sem, q0]
 refine hK _ ?_
 clear hK K
 try simp only [Act.put, List.setIfInBounds_toArray, List.set_cons_succ, List.set_cons_zero]
 refine wpPlan_q rfl rfl rfl ?_; intro K hK
 go_big_quiet_op
 first | go_big_quiet_on | (refine ⟨_, fun _ _ => rfl, ?_⟩; go_big_quiet_on)
 refine wpPlan_act true rfl rfl rfl ?_; intro K hK
 go_simp
 refine hK _ _ (fun _ => HF6.out _ (below_drew_alloc wa _)) ?_
 clear hK K
 try simp only [Act.put, List.setIfInBounds_toArray, List.set_cons_succ, List.set_cons_zero]
 refine wpPlan_act true rfl rfl rfl ?_; intro K hK
 refine wp_app_z (.tmp 58) (.tmp 62) rfl (g + 1) n co 1 1 Ao (some ⟨wa.heap.size, 0, none⟩) o [⟨2, bs [], iv, 0⟩] rfl HP.out.1 rfl rfl HR.out (by omega) (by simp; omega) ?_
 intro A6 c6 w6 ho6 hg6
 have H6 := zh (HP.out.2 w6 A6 (n + 1) c6 (o ++ [⟨2, bs [], iv, 0⟩]) hg6 ho6 (by rw [lna, <- HN.out]; rfl))
 have hz6 : w6.frozen? ⟨g, 1, none⟩ = false := frozen_of_set H6.out.1
 have HX6 : Hid (w6.cell? ⟨w1.heap.size, 2, none⟩ = some (.int .i64 iv)) := zh (by
  have h1 : Blk (wa.drew.alloc (.cells #[.int .u8 2, .string ⟨#[]⟩, .int .i64 iv, .int .i64 0] 35)) w1.heap.size 42 #[.int .u8 23, .int .i64 0, .int .i64 iv, .string (bs [])] := (H0.out.2.2.1.drew).alloc _
  have h2 := h1.kp (Kp.grown HP.out.1 hg6) H0.out.2.2.2 (by decide)
  rw [h2.cell 2]; rfl)
 clear ho6 hg6
 refine hK _ _ (fun _ => zh ⟨H6.out.2.2, HX6.out⟩) ?_
 clear hK K
 try simp only [Act.put, List.setIfInBounds_toArray, List.set_cons_succ, List.set_cons_zero]
 refine wpPlan_q rfl rfl rfl ?_; intro K hK
 go_big_quiet_op
 first | go_big_quiet_on | (refine ⟨_, fun _ _ => rfl, ?_⟩; go_big_quiet_on)
 refine wpPlan_q rfl rfl rfl ?_; intro K hK
 go_big_quiet_op
 first | go_big_quiet_on | (refine ⟨_, fun _ _ => rfl, ?_⟩; go_big_quiet_on)
 refine wpPlan_act false rfl rfl rfl ?_; intro K hK
 have hc6 := H6.out.2.2
 go_simp
 refine hK _ _ (fun h => by cases h) ?_
 clear hK K
 try simp only [Act.put, List.setIfInBounds_toArray, List.set_cons_succ, List.set_cons_zero]
 refine wpPlan_fin ?_
 go_wp2_with fail
 refine ⟨_, results_none rfl _ _ _, rfl, (H0.out.1.trans (Kp.of_below (below_drew_alloc wa _))).trans H6.out.2.1, ?_⟩
 rw [HSH.out]
 exact H6.out.1
theorem ex24 (s : ByteArray) (g a : Nat) (ha : a <= 9) (l : List Tw) (o : List Tz) (w : World) (hm : WrM w g ((Tr.flat (.node ⟨24, 0, 0, s⟩ [])) ++ l) o) (ho : o.length + (sh (.node ⟨24, 0, 0, s⟩ []) a).length <= 1000000) :
 Calls prog 27 #[gp g, .int .i64 (a : Nat)] w (SPost w g l (o ++ sh (.node ⟨24, 0, 0, s⟩ []) a)) := by
 have HSH : Hid (sh (.node ⟨24, 0, 0, s⟩ []) a = [⟨3, s, 0, 0⟩]) := zh (by
  rw [sh_expr _ _ (by omega), if_neg (by show ¬ width 24 < a; have : width 24 = 9 := rfl; omega)]
  rfl)
 have HL : o.length + 1 <= 1000000 := by rw [HSH.out] at ho; exact ho
 have HM : Hid (WrM w g (⟨24, 0, 0, s⟩ :: l) o) := zh (by simpa [Tr.flat, flats] using hm)
 clear hm ho
 have d : decide ((9 : Int) < (a : Int)) = false := dqf (by omega)
 go_enter_defers func27, ntmps27
 go_wp2_with fail
 refine (next_any g ⟨24, 0, 0, s⟩ l o w HM.out).mono ?_
 rintro e w1 ⟨rfl, hk1, hm1⟩
 have H0 := zh (nwH (l := l) (o := o) hk1 hm1 42 #[.int .u8 24, .int .i64 0, .int .i64 0, .string s])
 clear hk1 hm1 HM
 go_wp2_with fail
 refine (width_is 24 9 rfl _).mono ?_
 rintro e w2 ⟨rfl, rfl⟩
 generalize w1.alloc _ = wa at *
 have c0 := H0.out.2.2.1.cell 0
 simp at c0
 obtain ⟨n, hn⟩ := ex o.length
 have HN := zh hn
 rw [<- hn] at HL
 clear hn
 have hg : g < wa.heap.size := H0.out.2.1.lt
 obtain ⟨Ao, co, k1, hown, hput⟩ := (H0.out.2.1.below (below_drew_alloc wa (.cells #[.int .u8 3, .string s, .int .i64 0, .int .i64 0] 35))).out_
 rw [<- HN.out] at k1 hown hput
 have HP := zh (ai hown hput)
 have HK : Hid (wa.cell? ⟨g, 1, none⟩ = some (.slice Ao n co)) := zh ((World.cell?_alloc_lt wa.drew _ ⟨g, 1, none⟩ hg).symm.trans k1)
 have HX : Hid (wa.cell? ⟨w1.heap.size, 3, none⟩ = some (.string s)) := zh (by rw [H0.out.2.2.1.cell 3]; rfl)
 have HR : Hid (RdZ (wa.drew.alloc (.cells #[.int .u8 3, .string s, .int .i64 0, .int .i64 0] 35)) (some ⟨wa.heap.size, 0, none⟩) [⟨3, s, 0, 0⟩]) := zh (rdz_one (x := ⟨3, s, 0, 0⟩) (Blk.new wa.drew 35 _))
 clear k1 hown hput
 go_upto_region 20 with fail
 have HF6 : Hid (∀ X, Below wa.heap.size wa X -> (fun X => Hid (X.cell? ⟨g, 1, none⟩ = some (.slice Ao n co) ∧ X.cell? ⟨w1.heap.size, 3, none⟩ = some (.string s))) X) := zh (fun X hX => zh ⟨(hX.cell (p := ⟨g, 1, none⟩) hg).trans HK.out, (hX.cell (p := ⟨w1.heap.size, 3, none⟩) H0.out.2.2.1.lt).trans HX.out⟩)
 refine wp_region_plan (.q 0 (.q 1 (.q 2 (.q 3 (.q 4 (.q 5 (.q 6 (.q 7 (.a1 8 (.a1 9 (.q 10 (.q 11 (.a1 12 .fin))))))))))))) 12 (fun X => Hid (X.cell? ⟨g, 1, none⟩ = some (.slice Ao n co) ∧ X.cell? ⟨w1.heap.size, 3, none⟩ = some (.string s))) (by kernel_rfl) rfl (by kernel_rfl) (HF6.out _ (Below.refl _ _).drew) ?_
 refine wpPlan_q rfl rfl rfl ?_; intro K hK
 go_big_quiet_op
 first | go_big_quiet_on | (refine ⟨_, fun _ _ => rfl, ?_⟩; go_big_quiet_on)
 refine wpPlan_q rfl rfl rfl ?_; intro K hK
 go_big_quiet_op
 first | go_big_quiet_on | (refine ⟨_, fun _ _ => rfl, ?_⟩; go_big_quiet_on)
 refine wpPlan_q rfl rfl rfl ?_; intro K hK
 go_big_quiet_op
 first | go_big_quiet_on | (refine ⟨_, fun _ _ => rfl, ?_⟩; go_big_quiet_on)
 refine wpPlan_q rfl rfl rfl ?_; intro K hK
 go_big_quiet_op
 first | go_big_quiet_on | (refine ⟨_, fun _ _ => rfl, ?_⟩; go_big_quiet_on)
 refine wpPlan_q rfl rfl rfl ?_; intro K hK
 refine ⟨(.slice Ao n co), fun W hW => ?_, ?_⟩
 . have q0 := hW.out.1
   unfold Oper.quietAt Oper.quietUpon
   simp [go_sem, q0]
 refine hK _ ?_
 clear hK K
 try simp only [Act.put, List.setIfInBounds_toArray, List.set_cons_succ, List.set_cons_zero]
 refine wpPlan_q rfl rfl rfl ?_; intro K hK
 go_big_quiet_op
 first | go_big_quiet_on | (refine ⟨_, fun _ _ => rfl, ?_⟩; go_big_quiet_on)
 refine wpPlan_q rfl rfl rfl ?_; intro K hK
 refine ⟨(.string s), fun W hW => ?_, ?_⟩
 . have q0 := hW.out.2
   unfold Oper.quietAt Oper.quietUpon
   simp [go_sem, q0]
 refine hK _ ?_
 clear hK K
 try simp only [Act.put, List.setIfInBounds_toArray, List.set_cons_succ, List.set_cons_zero]
 refine wpPlan_q rfl rfl rfl ?_; intro K hK
 go_big_quiet_op
 first | go_big_quiet_on | (refine ⟨_, fun _ _ => rfl, ?_⟩; go_big_quiet_on)
 refine wpPlan_act true rfl rfl rfl ?_; intro K hK
 go_simp
 refine hK _ _ (fun _ => HF6.out _ (below_drew_alloc wa _)) ?_
 clear hK K
 try simp only [Act.put, List.setIfInBounds_toArray, List.set_cons_succ, List.set_cons_zero]
 refine wpPlan_act true rfl rfl rfl ?_; intro K hK
 refine wp_app_z (.tmp 72) (.tmp 76) rfl (g + 1) n co 1 1 Ao (some ⟨wa.heap.size, 0, none⟩) o [⟨3, s, 0, 0⟩] rfl HP.out.1 rfl rfl HR.out (by omega) (by simp; omega) ?_
 intro A6 c6 w6 ho6 hg6
 have H6 := zh (HP.out.2 w6 A6 (n + 1) c6 (o ++ [⟨3, s, 0, 0⟩]) hg6 ho6 (by rw [lna, <- HN.out]; rfl))
 have hz6 : w6.frozen? ⟨g, 1, none⟩ = false := frozen_of_set H6.out.1
 have HX6 : Hid (w6.cell? ⟨w1.heap.size, 3, none⟩ = some (.string s)) := zh (by
  have h1 : Blk (wa.drew.alloc (.cells #[.int .u8 3, .string s, .int .i64 0, .int .i64 0] 35)) w1.heap.size 42 #[.int .u8 24, .int .i64 0, .int .i64 0, .string s] := (H0.out.2.2.1.drew).alloc _
  have h2 := h1.kp (Kp.grown HP.out.1 hg6) H0.out.2.2.2 (by decide)
  rw [h2.cell 3]; rfl)
 clear ho6 hg6
 refine hK _ _ (fun _ => zh ⟨H6.out.2.2, HX6.out⟩) ?_
 clear hK K
 try simp only [Act.put, List.setIfInBounds_toArray, List.set_cons_succ, List.set_cons_zero]
 refine wpPlan_q rfl rfl rfl ?_; intro K hK
 go_big_quiet_op
 first | go_big_quiet_on | (refine ⟨_, fun _ _ => rfl, ?_⟩; go_big_quiet_on)
 refine wpPlan_q rfl rfl rfl ?_; intro K hK
 go_big_quiet_op
 first | go_big_quiet_on | (refine ⟨_, fun _ _ => rfl, ?_⟩; go_big_quiet_on)
 refine wpPlan_act false rfl rfl rfl ?_; intro K hK
 have hc6 := H6.out.2.2
 go_simp
 refine hK _ _ (fun h => by cases h) ?_
 clear hK K
 try simp only [Act.put, List.setIfInBounds_toArray, List.set_cons_succ, List.set_cons_zero]
 refine wpPlan_fin ?_
 go_wp2_with fail
 refine ⟨_, results_none rfl _ _ _, rfl, (H0.out.1.trans (Kp.of_below (below_drew_alloc wa _))).trans H6.out.2.1, ?_⟩
 rw [HSH.out]
 exact H6.out.1
theorem go_with {P Q : Prop} (h : P) (k : Hid P -> Q) : Q := k (zh h)
theorem all_snoc (m : Nat) (fs : List Sh) (f : Sh) : allS m (fs ++ [f]) = allS m fs ++ f m := by unfold allS; simp
theorem all_take (m : Nat) (ks : List Tr) (j : Nat) : (allS m (shs (ks.take j))).length <= (allS m (shs ks)).length := by
 have e : shs ks = shs (ks.take j) ++ shs (ks.drop j) := by rw [shs_map (ks.take j), shs_map (ks.drop j), <- List.map_append, List.take_append_drop, shs_map]
 rw [e]
 unfold allS
 rw [List.flatMap_append, lna]
 omega
theorem wblock_any (N : Nat) (hS : StmtOk N) (ks : List Tr) (hks : ∀ k ∈ ks, Rt 2 k ∧ k.flat.length <= N) (hn9 : ks.length <= 100000) (g : Nat) (l : List Tw) (o : List Tz) (w : World) (hm : WrM w g ((Tr.flat (.node ⟨3, (ks.length : Nat), 0, bs []⟩ ks)) ++ l) o) (ho : o.length + (sh (.node ⟨3, (ks.length : Nat), 0, bs []⟩ ks) 10).length <= 1000000) :
 Calls prog 57 #[gp g] w (SPost w g l (o ++ sh (.node ⟨3, (ks.length : Nat), 0, bs []⟩ ks) 10)) := by
 have HSH : Hid (sh (.node ⟨3, (ks.length : Nat), 0, bs []⟩ ks) 10 = sg [123] :: (allS 11 (shs ks) ++ [sg [125]])) := zh (by rw [sh_node]; rfl)
 have HL : Hid (o.length + (sg [123] :: (allS 11 (shs ks) ++ [sg [125]])).length <= 1000000) := zh (by rw [<- HSH.out]; exact ho)
 obtain ⟨n, hn⟩ : ∃ z, z = ks.length := ⟨_, rfl⟩
 have HM : Hid (WrM w g (⟨3, (n : Nat), 0, bs []⟩ :: (flats ks ++ l)) o) := zh (by rw [hn]; simpa [Tr.flat] using hm)
 have HH := zh (ai hS (ai hks hn))
 rw [<- hn] at hn9
 clear hS hks hm ho hn
 go_enter_defers func57, ntmps57
 go_wp2_with fail
 refine (next_any g ⟨3, (n : Nat), 0, bs []⟩ (flats ks ++ l) o w HM.out).mono ?_
 rintro e w1 ⟨rfl, hk1, hm1⟩
 have H0 := zh (nwH (l := flats ks ++ l) (o := o) hk1 hm1 42 #[.int .u8 3, .int .i64 (n : Nat), .int .i64 0, .string (bs [])])
 clear hk1 hm1 HM
 go_upto_region 1 with fail
 generalize w1.alloc _ = wa at *
 go_wp2_with fail
 refine (sign1 (bs [123]) H0.out.2.1 (by have := HL.out; (try simp only [lna, lnc, lnn] at this |-); omega)).mono ?_
 rintro e w3 ⟨rfl, hk3, hm3⟩
 have H3 : Hid (Kp g w (w3.alloc (.cells #[.string ⟨#[125]⟩] 9)) ∧ WrM (w3.alloc (.cells #[.string ⟨#[125]⟩] 9)) g (flats ks ++ l) (o ++ [sg [123]]) ∧ Blk (w3.alloc (.cells #[.string ⟨#[125]⟩] 9)) w3.heap.size 9 #[.string (bs [125])] ∧ w3.heap.size ≠ g) := zh ⟨(H0.out.1.trans hk3).alloc _, hm3.alloc _, Blk.new w3 9 _, by have := hm3.lt; omega⟩
 have HB3 : Hid (Blk w3 w1.heap.size 42 #[.int .u8 3, .int .i64 (n : Nat), .int .i64 0, .string (bs [])]) := zh (H0.out.2.2.1.kp hk3 H0.out.2.2.2 (by decide))
 clear hk3 hm3
 have hlt3 := HB3.out.lt
 have c1 := HB3.out.cell 1
 simp at c1
 go_wp2_with fail
 generalize w3.alloc _ = wb at *
 go_loopw [12] (fun s12 wr => ∃ j : Nat, s12 = .int .i64 (j : Nat) ∧ j <= n ∧ Kp g w wr ∧ WrM wr g (flats (ks.drop j) ++ l) (o ++ sg [123] :: allS 11 (shs (ks.take j))) ∧ Blk wr w3.heap.size 9 #[.string (bs [125])]) (fun s12 _ => n - (intOf s12).toNat)
 case atStart => exact ⟨0, rfl, by omega, H3.out.1, by rw [List.drop_zero, List.take_zero, shs]; exact H3.out.2.1, H3.out.2.2.1⟩
 case round =>
  obtain ⟨j, rfl, hj, hk, hm, hb⟩ := hrel
  have HW := zh (ai hk (ai hm hb))
  clear hk hm hb
  by_cases hlt : j < n
  . have hd : decide ((j : Int) < (n : Int)) = true := dqt (by omega)
    obtain ⟨k, hk⟩ : ∃ k, ks[j]? = some k := by
     have : j < ks.length := by rw [<- HH.out.2.2]; exact hlt
     exact ⟨_, List.getElem?_eq_getElem this⟩
    have HK := zh (ai hk (HH.out.2.1 k (List.mem_of_getElem? hk)))
    clear hk
    have HC : Hid (allS 11 (shs (ks.take (j + 1))) = allS 11 (shs (ks.take j)) ++ sh k 11) := zh (by rw [take_shs ks HK.out.1, all_snoc])
    have HLL : Hid (o.length + 1 + (allS 11 (shs (ks.take j))).length + (sh k 11).length + 1 <= 1000000) := zh (by
     have h1 := all_take 11 ks (j + 1)
     rw [HC.out, lna] at h1
     have h2 := HL.out
     rw [lnc, lna, List.length_singleton] at h2
     omega)
    refine go_with (HH.out.1 k HK.out.2.1 HK.out.2.2 g (flats (ks.drop (j + 1)) ++ l) _ wr (by rw [<- List.append_assoc, <- drop_flats ks HK.out.1]; exact HW.out.2.1) (by rw [lna, lnc]; have := HLL.out; omega)) fun HX => ?_
    go_wp2_with fail
    refine HX.out.mono ?_
    rintro e w4 ⟨rfl, hk4, hm4⟩
    have H4 := zh (ai hk4 hm4)
    clear hk4 hm4 HX
    go_wp2_with fail
    go_roundw
    case rel =>
     refine ⟨j + 1, by go_num, by omega, HW.out.1.trans H4.out.1, ?_, HW.out.2.2.kp H4.out.1 H3.out.2.2.2 (by decide)⟩
     have := H4.out.2
     rw [HC.out]
     rw [List.append_assoc, List.cons_append] at this
     exact this
    case measure => simp [intOf]; omega
  . have hd : decide ((j : Int) < (n : Int)) = false := dqf (by omega)
    have HE : Hid (WrM wr g l (o ++ sg [123] :: allS 11 (shs ks))) := zh (by
     have := HW.out.2.1
     rwa [List.take_of_length_le (by rw [<- HH.out.2.2]; omega), List.drop_of_length_le (by rw [<- HH.out.2.2]; omega), flats, List.nil_append] at this)
    go_wp2_with fail
    refine leaves_cons (f := 56) (args := #[gp g, .slice (some ⟨w3.heap.size, 0, none⟩) 1 1]) (by simp) (by simp [go_sem]) ?_
    refine (sign1_d w3.heap.size (bs [125]) .returning HE.out HW.out.2.2 H3.out.2.2.2 (by have := HL.out; (try simp only [lna, lnc, lnn] at this |-); omega)).mono ?_
    rintro e u' w9 ⟨rfl, rfl, hk9, hm9⟩
    refine ⟨_, results_none rfl _ _ _, rfl, HW.out.1.trans hk9, ?_⟩
    rw [HSH.out]
    rw [List.append_assoc, List.cons_append] at hm9
    exact hm9
theorem st4 (N : Nat) (hE : ExprOk N) (hB : BlockOk N) (k : Tr) (hk : Rt 0 k ∧ k.flat.length <= N) (s : ByteArray) (g : Nat) (l : List Tw) (o : List Tz) (w : World) (hm : WrM w g ((Tr.flat (.node ⟨4, 1, 0, s⟩ [k])) ++ l) o) (ho : o.length + (sh (.node ⟨4, 1, 0, s⟩ [k]) 11).length <= 1000000) :
 Calls prog 94 #[gp g] w (SPost w g l (o ++ sh (.node ⟨4, 1, 0, s⟩ [k]) 11)) := by
 have HSH : Hid (sh (.node ⟨4, 1, 0, s⟩ [k]) 11 = [wd [108, 101, 116], wt s] ++ ([sg [61]] ++ (sh k 1))) := zh (by
  rw [sh_node, shs_map]
  simp [bodyS, stmtS, nthS])
 have HL : Hid (o.length + ([wd [108, 101, 116], wt s] ++ ([sg [61]] ++ (sh k 1))).length <= 1000000) := zh (by rw [<- HSH.out]; exact ho)
 have HM : Hid (WrM w g (⟨4, 1, 0, s⟩ :: (k.flat ++ l)) o) := zh (by simpa [Tr.flat, flats] using hm)
 have HE := zh hE
 have HB := zh hB
 have HK := zh hk
 clear hk
 clear hm ho hE hB
 go_in
 go_wp2_with fail
 refine (next_any g ⟨4, 1, 0, s⟩ (k.flat ++ l) o w HM.out).mono ?_
 rintro e w1 ⟨rfl, hk1, hm1⟩
 have H0 := zh (nwG (l := k.flat ++ l) (o := o) hk1 hm1 42 #[.int .u8 4, .int .i64 1, .int .i64 0, .string (s)])
 have hne : w1.heap.size ≠ g := by have := hm1.lt; omega
 clear hk1 hm1 HM
 go_upto_region 1 with fail
 generalize w1.alloc _ = wa at *
 have c0 := H0.out.2.2.cell 0
 have c1 := H0.out.2.2.cell 1
 have c3 := H0.out.2.2.cell 3
 simp at c0 c1 c3
 go_wp2_with fail
 refine (word2 (bs [108, 101, 116]) s H0.out.2.1 (by have := HL.out; (try simp only [lna, lnc, lnn] at this |-); omega)).mono ?_
 rintro e w2 ⟨rfl, hk, hm⟩
 have H2 : Hid (Kp g w w2 ∧ WrM w2 g (k.flat ++ l) (o ++ [wd [108, 101, 116], wt s]) ∧ Blk w2 w1.heap.size 42 #[.int .u8 4, .int .i64 1, .int .i64 0, .string (s)]) := zh ⟨H0.out.1.trans hk, hm, H0.out.2.2.kp hk hne (by decide)⟩
 clear hk hm
 clear c0 c1 c3
 have c0 := H2.out.2.2.cell 0
 have c1 := H2.out.2.2.cell 1
 have c3 := H2.out.2.2.cell 3
 simp at c0 c1 c3
 go_wp2_with fail
 refine (sign1 (bs [61]) H2.out.2.1 (by have := HL.out; (try simp only [lna, lnc, lnn] at this |-); omega)).mono ?_
 rintro e w3 ⟨rfl, hk, hm⟩
 have H3 : Hid (Kp g w w3 ∧ WrM w3 g (k.flat ++ l) ((o ++ [wd [108, 101, 116], wt s]) ++ [sg [61]]) ∧ Blk w3 w1.heap.size 42 #[.int .u8 4, .int .i64 1, .int .i64 0, .string (s)]) := zh ⟨H2.out.1.trans hk, hm, H2.out.2.2.kp hk hne (by decide)⟩
 clear hk hm
 clear c0 c1 c3
 have c0 := H3.out.2.2.cell 0
 have c1 := H3.out.2.2.cell 1
 have c3 := H3.out.2.2.cell 3
 simp at c0 c1 c3
 go_wp2_with fail
 refine (HE.out k HK.out.1 HK.out.2 g 1 _ _ _ (by omega) H3.out.2.1 (by have := HL.out; (try simp only [lna, lnc, lnn] at this |-); omega)).mono ?_
 rintro e w4 ⟨rfl, hk, hm⟩
 have H4 : Hid (Kp g w w4 ∧ WrM w4 g (l) (((o ++ [wd [108, 101, 116], wt s]) ++ [sg [61]]) ++ sh k 1) ∧ Blk w4 w1.heap.size 42 #[.int .u8 4, .int .i64 1, .int .i64 0, .string (s)]) := zh ⟨H3.out.1.trans hk, hm, H3.out.2.2.kp hk hne (by decide)⟩
 clear hk hm
 go_wp2_with fail
 refine bodyPost_ret (results_none rfl _ _ _) rfl ⟨rfl, H4.out.1, ?_⟩
 rw [HSH.out]
 have := H4.out.2.1
 simpa only [List.append_assoc] using this
theorem st5 (N : Nat) (hE : ExprOk N) (hB : BlockOk N) (k : Tr) (hk : Rt 0 k ∧ k.flat.length <= N) (s : ByteArray) (g : Nat) (l : List Tw) (o : List Tz) (w : World) (hm : WrM w g ((Tr.flat (.node ⟨5, 1, 0, s⟩ [k])) ++ l) o) (ho : o.length + (sh (.node ⟨5, 1, 0, s⟩ [k]) 11).length <= 1000000) :
 Calls prog 94 #[gp g] w (SPost w g l (o ++ sh (.node ⟨5, 1, 0, s⟩ [k]) 11)) := by
 have HSH : Hid (sh (.node ⟨5, 1, 0, s⟩ [k]) 11 = [wt s] ++ ([sg [61]] ++ (sh k 1))) := zh (by
  rw [sh_node, shs_map]
  simp [bodyS, stmtS, nthS])
 have HL : Hid (o.length + ([wt s] ++ ([sg [61]] ++ (sh k 1))).length <= 1000000) := zh (by rw [<- HSH.out]; exact ho)
 have HM : Hid (WrM w g (⟨5, 1, 0, s⟩ :: (k.flat ++ l)) o) := zh (by simpa [Tr.flat, flats] using hm)
 have HE := zh hE
 have HB := zh hB
 have HK := zh hk
 clear hk
 clear hm ho hE hB
 go_in
 go_wp2_with fail
 refine (next_any g ⟨5, 1, 0, s⟩ (k.flat ++ l) o w HM.out).mono ?_
 rintro e w1 ⟨rfl, hk1, hm1⟩
 have H0 := zh (nwG (l := k.flat ++ l) (o := o) hk1 hm1 42 #[.int .u8 5, .int .i64 1, .int .i64 0, .string (s)])
 have hne : w1.heap.size ≠ g := by have := hm1.lt; omega
 clear hk1 hm1 HM
 go_upto_region 1 with fail
 generalize w1.alloc _ = wa at *
 have c0 := H0.out.2.2.cell 0
 have c1 := H0.out.2.2.cell 1
 have c3 := H0.out.2.2.cell 3
 simp at c0 c1 c3
 go_wp2_with fail
 refine (word1 s H0.out.2.1 (by have := HL.out; (try simp only [lna, lnc, lnn] at this |-); omega)).mono ?_
 rintro e w2 ⟨rfl, hk, hm⟩
 have H2 : Hid (Kp g w w2 ∧ WrM w2 g (k.flat ++ l) (o ++ [wt s]) ∧ Blk w2 w1.heap.size 42 #[.int .u8 5, .int .i64 1, .int .i64 0, .string (s)]) := zh ⟨H0.out.1.trans hk, hm, H0.out.2.2.kp hk hne (by decide)⟩
 clear hk hm
 clear c0 c1 c3
 have c0 := H2.out.2.2.cell 0
 have c1 := H2.out.2.2.cell 1
 have c3 := H2.out.2.2.cell 3
 simp at c0 c1 c3
 go_wp2_with fail
 refine (sign1 (bs [61]) H2.out.2.1 (by have := HL.out; (try simp only [lna, lnc, lnn] at this |-); omega)).mono ?_
 rintro e w3 ⟨rfl, hk, hm⟩
 have H3 : Hid (Kp g w w3 ∧ WrM w3 g (k.flat ++ l) ((o ++ [wt s]) ++ [sg [61]]) ∧ Blk w3 w1.heap.size 42 #[.int .u8 5, .int .i64 1, .int .i64 0, .string (s)]) := zh ⟨H2.out.1.trans hk, hm, H2.out.2.2.kp hk hne (by decide)⟩
 clear hk hm
 clear c0 c1 c3
 have c0 := H3.out.2.2.cell 0
 have c1 := H3.out.2.2.cell 1
 have c3 := H3.out.2.2.cell 3
 simp at c0 c1 c3
 go_wp2_with fail
 refine (HE.out k HK.out.1 HK.out.2 g 1 _ _ _ (by omega) H3.out.2.1 (by have := HL.out; (try simp only [lna, lnc, lnn] at this |-); omega)).mono ?_
 rintro e w4 ⟨rfl, hk, hm⟩
 have H4 : Hid (Kp g w w4 ∧ WrM w4 g (l) (((o ++ [wt s]) ++ [sg [61]]) ++ sh k 1) ∧ Blk w4 w1.heap.size 42 #[.int .u8 5, .int .i64 1, .int .i64 0, .string (s)]) := zh ⟨H3.out.1.trans hk, hm, H3.out.2.2.kp hk hne (by decide)⟩
 clear hk hm
 go_wp2_with fail
 refine bodyPost_ret (results_none rfl _ _ _) rfl ⟨rfl, H4.out.1, ?_⟩
 rw [HSH.out]
 have := H4.out.2.1
 simpa only [List.append_assoc] using this
theorem st7 (N : Nat) (hE : ExprOk N) (hB : BlockOk N) (k : Tr) (hk : Rt 0 k ∧ k.flat.length <= N) (j : Tr) (hj : Rt 1 j ∧ j.flat.length <= N) (g : Nat) (l : List Tw) (o : List Tz) (w : World) (hm : WrM w g ((Tr.flat (.node ⟨7, 2, 0, bs []⟩ [k, j])) ++ l) o) (ho : o.length + (sh (.node ⟨7, 2, 0, bs []⟩ [k, j]) 11).length <= 1000000) :
 Calls prog 94 #[gp g] w (SPost w g l (o ++ sh (.node ⟨7, 2, 0, bs []⟩ [k, j]) 11)) := by
 have HSH : Hid (sh (.node ⟨7, 2, 0, bs []⟩ [k, j]) 11 = [wd [119, 104, 105, 108, 101]] ++ (sh k 1 ++ (sh j 10))) := zh (by
  rw [sh_node, shs_map]
  simp [bodyS, stmtS, nthS])
 have HL : Hid (o.length + ([wd [119, 104, 105, 108, 101]] ++ (sh k 1 ++ (sh j 10))).length <= 1000000) := zh (by rw [<- HSH.out]; exact ho)
 have HM : Hid (WrM w g (⟨7, 2, 0, bs []⟩ :: (k.flat ++ (j.flat ++ l))) o) := zh (by simpa [Tr.flat, flats] using hm)
 have HE := zh hE
 have HB := zh hB
 have HK := zh hk
 clear hk
 have HJ := zh hj
 clear hj
 clear hm ho hE hB
 go_in
 go_wp2_with fail
 refine (next_any g ⟨7, 2, 0, bs []⟩ (k.flat ++ (j.flat ++ l)) o w HM.out).mono ?_
 rintro e w1 ⟨rfl, hk1, hm1⟩
 have H0 := zh (nwG (l := k.flat ++ (j.flat ++ l)) (o := o) hk1 hm1 42 #[.int .u8 7, .int .i64 2, .int .i64 0, .string (bs [])])
 have hne : w1.heap.size ≠ g := by have := hm1.lt; omega
 clear hk1 hm1 HM
 go_upto_region 1 with fail
 generalize w1.alloc _ = wa at *
 have c0 := H0.out.2.2.cell 0
 have c1 := H0.out.2.2.cell 1
 have c3 := H0.out.2.2.cell 3
 simp at c0 c1 c3
 go_wp2_with fail
 refine (word1 (bs [119, 104, 105, 108, 101]) H0.out.2.1 (by have := HL.out; (try simp only [lna, lnc, lnn] at this |-); omega)).mono ?_
 rintro e w2 ⟨rfl, hk, hm⟩
 have H2 : Hid (Kp g w w2 ∧ WrM w2 g (k.flat ++ (j.flat ++ l)) (o ++ [wd [119, 104, 105, 108, 101]]) ∧ Blk w2 w1.heap.size 42 #[.int .u8 7, .int .i64 2, .int .i64 0, .string (bs [])]) := zh ⟨H0.out.1.trans hk, hm, H0.out.2.2.kp hk hne (by decide)⟩
 clear hk hm
 clear c0 c1 c3
 have c0 := H2.out.2.2.cell 0
 have c1 := H2.out.2.2.cell 1
 have c3 := H2.out.2.2.cell 3
 simp at c0 c1 c3
 go_wp2_with fail
 refine (HE.out k HK.out.1 HK.out.2 g 1 _ _ _ (by omega) H2.out.2.1 (by have := HL.out; (try simp only [lna, lnc, lnn] at this |-); omega)).mono ?_
 rintro e w3 ⟨rfl, hk, hm⟩
 have H3 : Hid (Kp g w w3 ∧ WrM w3 g (j.flat ++ l) ((o ++ [wd [119, 104, 105, 108, 101]]) ++ sh k 1) ∧ Blk w3 w1.heap.size 42 #[.int .u8 7, .int .i64 2, .int .i64 0, .string (bs [])]) := zh ⟨H2.out.1.trans hk, hm, H2.out.2.2.kp hk hne (by decide)⟩
 clear hk hm
 clear c0 c1 c3
 have c0 := H3.out.2.2.cell 0
 have c1 := H3.out.2.2.cell 1
 have c3 := H3.out.2.2.cell 3
 simp at c0 c1 c3
 go_wp2_with fail
 refine (HB.out j HJ.out.1 HJ.out.2 g _ _ _ H3.out.2.1 (by have := HL.out; (try simp only [lna, lnc, lnn] at this |-); omega)).mono ?_
 rintro e w4 ⟨rfl, hk, hm⟩
 have H4 : Hid (Kp g w w4 ∧ WrM w4 g (l) (((o ++ [wd [119, 104, 105, 108, 101]]) ++ sh k 1) ++ sh j 10) ∧ Blk w4 w1.heap.size 42 #[.int .u8 7, .int .i64 2, .int .i64 0, .string (bs [])]) := zh ⟨H3.out.1.trans hk, hm, H3.out.2.2.kp hk hne (by decide)⟩
 clear hk hm
 go_wp2_with fail
 refine bodyPost_ret (results_none rfl _ _ _) rfl ⟨rfl, H4.out.1, ?_⟩
 rw [HSH.out]
 have := H4.out.2.1
 simpa only [List.append_assoc] using this
theorem st8 (N : Nat) (hE : ExprOk N) (hB : BlockOk N) (k : Tr) (hk : Rt 0 k ∧ k.flat.length <= N) (g : Nat) (l : List Tw) (o : List Tz) (w : World) (hm : WrM w g ((Tr.flat (.node ⟨8, 1, 0, bs []⟩ [k])) ++ l) o) (ho : o.length + (sh (.node ⟨8, 1, 0, bs []⟩ [k]) 11).length <= 1000000) :
 Calls prog 94 #[gp g] w (SPost w g l (o ++ sh (.node ⟨8, 1, 0, bs []⟩ [k]) 11)) := by
 have HSH : Hid (sh (.node ⟨8, 1, 0, bs []⟩ [k]) 11 = [wd [114, 101, 116, 117, 114, 110]] ++ (sh k 1)) := zh (by
  rw [sh_node, shs_map]
  simp [bodyS, stmtS, nthS])
 have HL : Hid (o.length + ([wd [114, 101, 116, 117, 114, 110]] ++ (sh k 1)).length <= 1000000) := zh (by rw [<- HSH.out]; exact ho)
 have HM : Hid (WrM w g (⟨8, 1, 0, bs []⟩ :: (k.flat ++ l)) o) := zh (by simpa [Tr.flat, flats] using hm)
 have HE := zh hE
 have HB := zh hB
 have HK := zh hk
 clear hk
 clear hm ho hE hB
 go_in
 go_wp2_with fail
 refine (next_any g ⟨8, 1, 0, bs []⟩ (k.flat ++ l) o w HM.out).mono ?_
 rintro e w1 ⟨rfl, hk1, hm1⟩
 have H0 := zh (nwG (l := k.flat ++ l) (o := o) hk1 hm1 42 #[.int .u8 8, .int .i64 1, .int .i64 0, .string (bs [])])
 have hne : w1.heap.size ≠ g := by have := hm1.lt; omega
 clear hk1 hm1 HM
 go_upto_region 1 with fail
 generalize w1.alloc _ = wa at *
 have c0 := H0.out.2.2.cell 0
 have c1 := H0.out.2.2.cell 1
 have c3 := H0.out.2.2.cell 3
 simp at c0 c1 c3
 go_wp2_with fail
 refine (word1 (bs [114, 101, 116, 117, 114, 110]) H0.out.2.1 (by have := HL.out; (try simp only [lna, lnc, lnn] at this |-); omega)).mono ?_
 rintro e w2 ⟨rfl, hk, hm⟩
 have H2 : Hid (Kp g w w2 ∧ WrM w2 g (k.flat ++ l) (o ++ [wd [114, 101, 116, 117, 114, 110]]) ∧ Blk w2 w1.heap.size 42 #[.int .u8 8, .int .i64 1, .int .i64 0, .string (bs [])]) := zh ⟨H0.out.1.trans hk, hm, H0.out.2.2.kp hk hne (by decide)⟩
 clear hk hm
 clear c0 c1 c3
 have c0 := H2.out.2.2.cell 0
 have c1 := H2.out.2.2.cell 1
 have c3 := H2.out.2.2.cell 3
 simp at c0 c1 c3
 go_wp2_with fail
 refine (HE.out k HK.out.1 HK.out.2 g 1 _ _ _ (by omega) H2.out.2.1 (by have := HL.out; (try simp only [lna, lnc, lnn] at this |-); omega)).mono ?_
 rintro e w3 ⟨rfl, hk, hm⟩
 have H3 : Hid (Kp g w w3 ∧ WrM w3 g (l) ((o ++ [wd [114, 101, 116, 117, 114, 110]]) ++ sh k 1) ∧ Blk w3 w1.heap.size 42 #[.int .u8 8, .int .i64 1, .int .i64 0, .string (bs [])]) := zh ⟨H2.out.1.trans hk, hm, H2.out.2.2.kp hk hne (by decide)⟩
 clear hk hm
 go_wp2_with fail
 refine bodyPost_ret (results_none rfl _ _ _) rfl ⟨rfl, H3.out.1, ?_⟩
 rw [HSH.out]
 have := H3.out.2.1
 simpa only [List.append_assoc] using this
theorem st9 (N : Nat) (hE : ExprOk N) (hB : BlockOk N) (k : Tr) (hk : Rt 0 k ∧ k.flat.length <= N) (g : Nat) (l : List Tw) (o : List Tz) (w : World) (hm : WrM w g ((Tr.flat (.node ⟨9, 1, 0, bs []⟩ [k])) ++ l) o) (ho : o.length + (sh (.node ⟨9, 1, 0, bs []⟩ [k]) 11).length <= 1000000) :
 Calls prog 94 #[gp g] w (SPost w g l (o ++ sh (.node ⟨9, 1, 0, bs []⟩ [k]) 11)) := by
 have HSH : Hid (sh (.node ⟨9, 1, 0, bs []⟩ [k]) 11 = [wd [102, 97, 105, 108]] ++ (sh k 1)) := zh (by
  rw [sh_node, shs_map]
  simp [bodyS, stmtS, nthS])
 have HL : Hid (o.length + ([wd [102, 97, 105, 108]] ++ (sh k 1)).length <= 1000000) := zh (by rw [<- HSH.out]; exact ho)
 have HM : Hid (WrM w g (⟨9, 1, 0, bs []⟩ :: (k.flat ++ l)) o) := zh (by simpa [Tr.flat, flats] using hm)
 have HE := zh hE
 have HB := zh hB
 have HK := zh hk
 clear hk
 clear hm ho hE hB
 go_in
 go_wp2_with fail
 refine (next_any g ⟨9, 1, 0, bs []⟩ (k.flat ++ l) o w HM.out).mono ?_
 rintro e w1 ⟨rfl, hk1, hm1⟩
 have H0 := zh (nwG (l := k.flat ++ l) (o := o) hk1 hm1 42 #[.int .u8 9, .int .i64 1, .int .i64 0, .string (bs [])])
 have hne : w1.heap.size ≠ g := by have := hm1.lt; omega
 clear hk1 hm1 HM
 go_upto_region 1 with fail
 generalize w1.alloc _ = wa at *
 have c0 := H0.out.2.2.cell 0
 have c1 := H0.out.2.2.cell 1
 have c3 := H0.out.2.2.cell 3
 simp at c0 c1 c3
 go_wp2_with fail
 refine (word1 (bs [102, 97, 105, 108]) H0.out.2.1 (by have := HL.out; (try simp only [lna, lnc, lnn] at this |-); omega)).mono ?_
 rintro e w2 ⟨rfl, hk, hm⟩
 have H2 : Hid (Kp g w w2 ∧ WrM w2 g (k.flat ++ l) (o ++ [wd [102, 97, 105, 108]]) ∧ Blk w2 w1.heap.size 42 #[.int .u8 9, .int .i64 1, .int .i64 0, .string (bs [])]) := zh ⟨H0.out.1.trans hk, hm, H0.out.2.2.kp hk hne (by decide)⟩
 clear hk hm
 clear c0 c1 c3
 have c0 := H2.out.2.2.cell 0
 have c1 := H2.out.2.2.cell 1
 have c3 := H2.out.2.2.cell 3
 simp at c0 c1 c3
 go_wp2_with fail
 refine (HE.out k HK.out.1 HK.out.2 g 1 _ _ _ (by omega) H2.out.2.1 (by have := HL.out; (try simp only [lna, lnc, lnn] at this |-); omega)).mono ?_
 rintro e w3 ⟨rfl, hk, hm⟩
 have H3 : Hid (Kp g w w3 ∧ WrM w3 g (l) ((o ++ [wd [102, 97, 105, 108]]) ++ sh k 1) ∧ Blk w3 w1.heap.size 42 #[.int .u8 9, .int .i64 1, .int .i64 0, .string (bs [])]) := zh ⟨H2.out.1.trans hk, hm, H2.out.2.2.kp hk hne (by decide)⟩
 clear hk hm
 go_wp2_with fail
 refine bodyPost_ret (results_none rfl _ _ _) rfl ⟨rfl, H3.out.1, ?_⟩
 rw [HSH.out]
 have := H3.out.2.1
 simpa only [List.append_assoc] using this
theorem st10 (N : Nat) (hE : ExprOk N) (hB : BlockOk N) (k : Tr) (hk : Rt 0 k ∧ k.flat.length <= N) (g : Nat) (l : List Tw) (o : List Tz) (w : World) (hm : WrM w g ((Tr.flat (.node ⟨10, 1, 0, bs []⟩ [k])) ++ l) o) (ho : o.length + (sh (.node ⟨10, 1, 0, bs []⟩ [k]) 11).length <= 1000000) :
 Calls prog 94 #[gp g] w (SPost w g l (o ++ sh (.node ⟨10, 1, 0, bs []⟩ [k]) 11)) := by
 have HSH : Hid (sh (.node ⟨10, 1, 0, bs []⟩ [k]) 11 = [wd [115, 108, 101, 101, 112]] ++ (sh k 1)) := zh (by
  rw [sh_node, shs_map]
  simp [bodyS, stmtS, nthS])
 have HL : Hid (o.length + ([wd [115, 108, 101, 101, 112]] ++ (sh k 1)).length <= 1000000) := zh (by rw [<- HSH.out]; exact ho)
 have HM : Hid (WrM w g (⟨10, 1, 0, bs []⟩ :: (k.flat ++ l)) o) := zh (by simpa [Tr.flat, flats] using hm)
 have HE := zh hE
 have HB := zh hB
 have HK := zh hk
 clear hk
 clear hm ho hE hB
 go_in
 go_wp2_with fail
 refine (next_any g ⟨10, 1, 0, bs []⟩ (k.flat ++ l) o w HM.out).mono ?_
 rintro e w1 ⟨rfl, hk1, hm1⟩
 have H0 := zh (nwG (l := k.flat ++ l) (o := o) hk1 hm1 42 #[.int .u8 10, .int .i64 1, .int .i64 0, .string (bs [])])
 have hne : w1.heap.size ≠ g := by have := hm1.lt; omega
 clear hk1 hm1 HM
 go_upto_region 1 with fail
 generalize w1.alloc _ = wa at *
 have c0 := H0.out.2.2.cell 0
 have c1 := H0.out.2.2.cell 1
 have c3 := H0.out.2.2.cell 3
 simp at c0 c1 c3
 go_wp2_with fail
 refine (word1 (bs [115, 108, 101, 101, 112]) H0.out.2.1 (by have := HL.out; (try simp only [lna, lnc, lnn] at this |-); omega)).mono ?_
 rintro e w2 ⟨rfl, hk, hm⟩
 have H2 : Hid (Kp g w w2 ∧ WrM w2 g (k.flat ++ l) (o ++ [wd [115, 108, 101, 101, 112]]) ∧ Blk w2 w1.heap.size 42 #[.int .u8 10, .int .i64 1, .int .i64 0, .string (bs [])]) := zh ⟨H0.out.1.trans hk, hm, H0.out.2.2.kp hk hne (by decide)⟩
 clear hk hm
 clear c0 c1 c3
 have c0 := H2.out.2.2.cell 0
 have c1 := H2.out.2.2.cell 1
 have c3 := H2.out.2.2.cell 3
 simp at c0 c1 c3
 go_wp2_with fail
 refine (HE.out k HK.out.1 HK.out.2 g 1 _ _ _ (by omega) H2.out.2.1 (by have := HL.out; (try simp only [lna, lnc, lnn] at this |-); omega)).mono ?_
 rintro e w3 ⟨rfl, hk, hm⟩
 have H3 : Hid (Kp g w w3 ∧ WrM w3 g (l) ((o ++ [wd [115, 108, 101, 101, 112]]) ++ sh k 1) ∧ Blk w3 w1.heap.size 42 #[.int .u8 10, .int .i64 1, .int .i64 0, .string (bs [])]) := zh ⟨H2.out.1.trans hk, hm, H2.out.2.2.kp hk hne (by decide)⟩
 clear hk hm
 go_wp2_with fail
 refine bodyPost_ret (results_none rfl _ _ _) rfl ⟨rfl, H3.out.1, ?_⟩
 rw [HSH.out]
 have := H3.out.2.1
 simpa only [List.append_assoc] using this
theorem st11 (N : Nat) (hE : ExprOk N) (hB : BlockOk N) (k : Tr) (hk : Rt 0 k ∧ k.flat.length <= N) (g : Nat) (l : List Tw) (o : List Tz) (w : World) (hm : WrM w g ((Tr.flat (.node ⟨11, 1, 0, bs []⟩ [k])) ++ l) o) (ho : o.length + (sh (.node ⟨11, 1, 0, bs []⟩ [k]) 11).length <= 1000000) :
 Calls prog 94 #[gp g] w (SPost w g l (o ++ sh (.node ⟨11, 1, 0, bs []⟩ [k]) 11)) := by
 have HSH : Hid (sh (.node ⟨11, 1, 0, bs []⟩ [k]) 11 = [wd [100, 111]] ++ (sh k 1)) := zh (by
  rw [sh_node, shs_map]
  simp [bodyS, stmtS, nthS])
 have HL : Hid (o.length + ([wd [100, 111]] ++ (sh k 1)).length <= 1000000) := zh (by rw [<- HSH.out]; exact ho)
 have HM : Hid (WrM w g (⟨11, 1, 0, bs []⟩ :: (k.flat ++ l)) o) := zh (by simpa [Tr.flat, flats] using hm)
 have HE := zh hE
 have HB := zh hB
 have HK := zh hk
 clear hk
 clear hm ho hE hB
 go_in
 go_wp2_with fail
 refine (next_any g ⟨11, 1, 0, bs []⟩ (k.flat ++ l) o w HM.out).mono ?_
 rintro e w1 ⟨rfl, hk1, hm1⟩
 have H0 := zh (nwG (l := k.flat ++ l) (o := o) hk1 hm1 42 #[.int .u8 11, .int .i64 1, .int .i64 0, .string (bs [])])
 have hne : w1.heap.size ≠ g := by have := hm1.lt; omega
 clear hk1 hm1 HM
 go_upto_region 1 with fail
 generalize w1.alloc _ = wa at *
 have c0 := H0.out.2.2.cell 0
 have c1 := H0.out.2.2.cell 1
 have c3 := H0.out.2.2.cell 3
 simp at c0 c1 c3
 go_wp2_with fail
 refine (word1 (bs [100, 111]) H0.out.2.1 (by have := HL.out; (try simp only [lna, lnc, lnn] at this |-); omega)).mono ?_
 rintro e w2 ⟨rfl, hk, hm⟩
 have H2 : Hid (Kp g w w2 ∧ WrM w2 g (k.flat ++ l) (o ++ [wd [100, 111]]) ∧ Blk w2 w1.heap.size 42 #[.int .u8 11, .int .i64 1, .int .i64 0, .string (bs [])]) := zh ⟨H0.out.1.trans hk, hm, H0.out.2.2.kp hk hne (by decide)⟩
 clear hk hm
 clear c0 c1 c3
 have c0 := H2.out.2.2.cell 0
 have c1 := H2.out.2.2.cell 1
 have c3 := H2.out.2.2.cell 3
 simp at c0 c1 c3
 go_wp2_with fail
 refine (HE.out k HK.out.1 HK.out.2 g 1 _ _ _ (by omega) H2.out.2.1 (by have := HL.out; (try simp only [lna, lnc, lnn] at this |-); omega)).mono ?_
 rintro e w3 ⟨rfl, hk, hm⟩
 have H3 : Hid (Kp g w w3 ∧ WrM w3 g (l) ((o ++ [wd [100, 111]]) ++ sh k 1) ∧ Blk w3 w1.heap.size 42 #[.int .u8 11, .int .i64 1, .int .i64 0, .string (bs [])]) := zh ⟨H2.out.1.trans hk, hm, H2.out.2.2.kp hk hne (by decide)⟩
 clear hk hm
 go_wp2_with fail
 refine bodyPost_ret (results_none rfl _ _ _) rfl ⟨rfl, H3.out.1, ?_⟩
 rw [HSH.out]
 have := H3.out.2.1
 simpa only [List.append_assoc] using this
theorem st62 (N : Nat) (hE : ExprOk N) (hB : BlockOk N) (k : Tr) (hk : Rt 0 k ∧ k.flat.length <= N) (j : Tr) (hj : Rt 1 j ∧ j.flat.length <= N) (g : Nat) (l : List Tw) (o : List Tz) (w : World) (hm : WrM w g ((Tr.flat (.node ⟨6, 2, 0, bs []⟩ [k, j])) ++ l) o) (ho : o.length + (sh (.node ⟨6, 2, 0, bs []⟩ [k, j]) 11).length <= 1000000) :
 Calls prog 94 #[gp g] w (SPost w g l (o ++ sh (.node ⟨6, 2, 0, bs []⟩ [k, j]) 11)) := by
 have HSH : Hid (sh (.node ⟨6, 2, 0, bs []⟩ [k, j]) 11 = [wd [105, 102]] ++ (sh k 1 ++ (sh j 10))) := zh (by
  rw [sh_node, shs_map]
  simp [bodyS, stmtS, nthS])
 have HL : Hid (o.length + ([wd [105, 102]] ++ (sh k 1 ++ (sh j 10))).length <= 1000000) := zh (by rw [<- HSH.out]; exact ho)
 have HM : Hid (WrM w g (⟨6, 2, 0, bs []⟩ :: (k.flat ++ (j.flat ++ l))) o) := zh (by simpa [Tr.flat, flats] using hm)
 have HE := zh hE
 have HB := zh hB
 have HK := zh hk
 clear hk
 have HJ := zh hj
 clear hj
 clear hm ho hE hB
 go_in
 go_wp2_with fail
 refine (next_any g ⟨6, 2, 0, bs []⟩ (k.flat ++ (j.flat ++ l)) o w HM.out).mono ?_
 rintro e w1 ⟨rfl, hk1, hm1⟩
 have H0 := zh (nwG (l := k.flat ++ (j.flat ++ l)) (o := o) hk1 hm1 42 #[.int .u8 6, .int .i64 2, .int .i64 0, .string (bs [])])
 have hne : w1.heap.size ≠ g := by have := hm1.lt; omega
 clear hk1 hm1 HM
 go_upto_region 1 with fail
 generalize w1.alloc _ = wa at *
 have c0 := H0.out.2.2.cell 0
 have c1 := H0.out.2.2.cell 1
 have c3 := H0.out.2.2.cell 3
 simp at c0 c1 c3
 go_wp2_with fail
 refine (word1 (bs [105, 102]) H0.out.2.1 (by have := HL.out; (try simp only [lna, lnc, lnn] at this |-); omega)).mono ?_
 rintro e w2 ⟨rfl, hk, hm⟩
 have H2 : Hid (Kp g w w2 ∧ WrM w2 g (k.flat ++ (j.flat ++ l)) (o ++ [wd [105, 102]]) ∧ Blk w2 w1.heap.size 42 #[.int .u8 6, .int .i64 2, .int .i64 0, .string (bs [])]) := zh ⟨H0.out.1.trans hk, hm, H0.out.2.2.kp hk hne (by decide)⟩
 clear hk hm
 clear c0 c1 c3
 have c0 := H2.out.2.2.cell 0
 have c1 := H2.out.2.2.cell 1
 have c3 := H2.out.2.2.cell 3
 simp at c0 c1 c3
 go_wp2_with fail
 refine (HE.out k HK.out.1 HK.out.2 g 1 _ _ _ (by omega) H2.out.2.1 (by have := HL.out; (try simp only [lna, lnc, lnn] at this |-); omega)).mono ?_
 rintro e w3 ⟨rfl, hk, hm⟩
 have H3 : Hid (Kp g w w3 ∧ WrM w3 g (j.flat ++ l) ((o ++ [wd [105, 102]]) ++ sh k 1) ∧ Blk w3 w1.heap.size 42 #[.int .u8 6, .int .i64 2, .int .i64 0, .string (bs [])]) := zh ⟨H2.out.1.trans hk, hm, H2.out.2.2.kp hk hne (by decide)⟩
 clear hk hm
 clear c0 c1 c3
 have c0 := H3.out.2.2.cell 0
 have c1 := H3.out.2.2.cell 1
 have c3 := H3.out.2.2.cell 3
 simp at c0 c1 c3
 go_wp2_with fail
 refine (HB.out j HJ.out.1 HJ.out.2 g _ _ _ H3.out.2.1 (by have := HL.out; (try simp only [lna, lnc, lnn] at this |-); omega)).mono ?_
 rintro e w4 ⟨rfl, hk, hm⟩
 have H4 : Hid (Kp g w w4 ∧ WrM w4 g (l) (((o ++ [wd [105, 102]]) ++ sh k 1) ++ sh j 10) ∧ Blk w4 w1.heap.size 42 #[.int .u8 6, .int .i64 2, .int .i64 0, .string (bs [])]) := zh ⟨H3.out.1.trans hk, hm, H3.out.2.2.kp hk hne (by decide)⟩
 clear hk hm
 clear c0 c1 c3
 have c0 := H4.out.2.2.cell 0
 have c1 := H4.out.2.2.cell 1
 have c3 := H4.out.2.2.cell 3
 simp at c0 c1 c3
 go_wp2_with fail
 refine bodyPost_ret (results_none rfl _ _ _) rfl ⟨rfl, H4.out.1, ?_⟩
 rw [HSH.out]
 have := H4.out.2.1
 simpa only [List.append_assoc] using this
theorem st63 (N : Nat) (hE : ExprOk N) (hB : BlockOk N) (k : Tr) (hk : Rt 0 k ∧ k.flat.length <= N) (j : Tr) (hj : Rt 1 j ∧ j.flat.length <= N) (i : Tr) (hi : Rt 1 i ∧ i.flat.length <= N) (g : Nat) (l : List Tw) (o : List Tz) (w : World) (hm : WrM w g ((Tr.flat (.node ⟨6, 3, 0, bs []⟩ [k, j, i])) ++ l) o) (ho : o.length + (sh (.node ⟨6, 3, 0, bs []⟩ [k, j, i]) 11).length <= 1000000) :
 Calls prog 94 #[gp g] w (SPost w g l (o ++ sh (.node ⟨6, 3, 0, bs []⟩ [k, j, i]) 11)) := by
 have HSH : Hid (sh (.node ⟨6, 3, 0, bs []⟩ [k, j, i]) 11 = [wd [105, 102]] ++ (sh k 1 ++ (sh j 10 ++ ([wd [101, 108, 115, 101]] ++ (sh i 10))))) := zh (by
  rw [sh_node, shs_map]
  simp [bodyS, stmtS, nthS])
 have HL : Hid (o.length + ([wd [105, 102]] ++ (sh k 1 ++ (sh j 10 ++ ([wd [101, 108, 115, 101]] ++ (sh i 10))))).length <= 1000000) := zh (by rw [<- HSH.out]; exact ho)
 have HM : Hid (WrM w g (⟨6, 3, 0, bs []⟩ :: (k.flat ++ (j.flat ++ (i.flat ++ l)))) o) := zh (by simpa [Tr.flat, flats] using hm)
 have HE := zh hE
 have HB := zh hB
 have HK := zh hk
 clear hk
 have HJ := zh hj
 clear hj
 have HI := zh hi
 clear hi
 clear hm ho hE hB
 go_in
 go_wp2_with fail
 refine (next_any g ⟨6, 3, 0, bs []⟩ (k.flat ++ (j.flat ++ (i.flat ++ l))) o w HM.out).mono ?_
 rintro e w1 ⟨rfl, hk1, hm1⟩
 have H0 := zh (nwG (l := k.flat ++ (j.flat ++ (i.flat ++ l))) (o := o) hk1 hm1 42 #[.int .u8 6, .int .i64 3, .int .i64 0, .string (bs [])])
 have hne : w1.heap.size ≠ g := by have := hm1.lt; omega
 clear hk1 hm1 HM
 go_upto_region 1 with fail
 generalize w1.alloc _ = wa at *
 have c0 := H0.out.2.2.cell 0
 have c1 := H0.out.2.2.cell 1
 have c3 := H0.out.2.2.cell 3
 simp at c0 c1 c3
 go_wp2_with fail
 refine (word1 (bs [105, 102]) H0.out.2.1 (by have := HL.out; (try simp only [lna, lnc, lnn] at this |-); omega)).mono ?_
 rintro e w2 ⟨rfl, hk, hm⟩
 have H2 : Hid (Kp g w w2 ∧ WrM w2 g (k.flat ++ (j.flat ++ (i.flat ++ l))) (o ++ [wd [105, 102]]) ∧ Blk w2 w1.heap.size 42 #[.int .u8 6, .int .i64 3, .int .i64 0, .string (bs [])]) := zh ⟨H0.out.1.trans hk, hm, H0.out.2.2.kp hk hne (by decide)⟩
 clear hk hm
 clear c0 c1 c3
 have c0 := H2.out.2.2.cell 0
 have c1 := H2.out.2.2.cell 1
 have c3 := H2.out.2.2.cell 3
 simp at c0 c1 c3
 go_wp2_with fail
 refine (HE.out k HK.out.1 HK.out.2 g 1 _ _ _ (by omega) H2.out.2.1 (by have := HL.out; (try simp only [lna, lnc, lnn] at this |-); omega)).mono ?_
 rintro e w3 ⟨rfl, hk, hm⟩
 have H3 : Hid (Kp g w w3 ∧ WrM w3 g (j.flat ++ (i.flat ++ l)) ((o ++ [wd [105, 102]]) ++ sh k 1) ∧ Blk w3 w1.heap.size 42 #[.int .u8 6, .int .i64 3, .int .i64 0, .string (bs [])]) := zh ⟨H2.out.1.trans hk, hm, H2.out.2.2.kp hk hne (by decide)⟩
 clear hk hm
 clear c0 c1 c3
 have c0 := H3.out.2.2.cell 0
 have c1 := H3.out.2.2.cell 1
 have c3 := H3.out.2.2.cell 3
 simp at c0 c1 c3
 go_wp2_with fail
 refine (HB.out j HJ.out.1 HJ.out.2 g _ _ _ H3.out.2.1 (by have := HL.out; (try simp only [lna, lnc, lnn] at this |-); omega)).mono ?_
 rintro e w4 ⟨rfl, hk, hm⟩
 have H4 : Hid (Kp g w w4 ∧ WrM w4 g (i.flat ++ l) (((o ++ [wd [105, 102]]) ++ sh k 1) ++ sh j 10) ∧ Blk w4 w1.heap.size 42 #[.int .u8 6, .int .i64 3, .int .i64 0, .string (bs [])]) := zh ⟨H3.out.1.trans hk, hm, H3.out.2.2.kp hk hne (by decide)⟩
 clear hk hm
 clear c0 c1 c3
 have c0 := H4.out.2.2.cell 0
 have c1 := H4.out.2.2.cell 1
 have c3 := H4.out.2.2.cell 3
 simp at c0 c1 c3
 go_wp2_with fail
 refine (word1 (bs [101, 108, 115, 101]) H4.out.2.1 (by have := HL.out; (try simp only [lna, lnc, lnn] at this |-); omega)).mono ?_
 rintro e w5 ⟨rfl, hk, hm⟩
 have H5 : Hid (Kp g w w5 ∧ WrM w5 g (i.flat ++ l) ((((o ++ [wd [105, 102]]) ++ sh k 1) ++ sh j 10) ++ [wd [101, 108, 115, 101]]) ∧ Blk w5 w1.heap.size 42 #[.int .u8 6, .int .i64 3, .int .i64 0, .string (bs [])]) := zh ⟨H4.out.1.trans hk, hm, H4.out.2.2.kp hk hne (by decide)⟩
 clear hk hm
 clear c0 c1 c3
 have c0 := H5.out.2.2.cell 0
 have c1 := H5.out.2.2.cell 1
 have c3 := H5.out.2.2.cell 3
 simp at c0 c1 c3
 go_wp2_with fail
 refine (HB.out i HI.out.1 HI.out.2 g _ _ _ H5.out.2.1 (by have := HL.out; (try simp only [lna, lnc, lnn] at this |-); omega)).mono ?_
 rintro e w6 ⟨rfl, hk, hm⟩
 have H6 : Hid (Kp g w w6 ∧ WrM w6 g (l) (((((o ++ [wd [105, 102]]) ++ sh k 1) ++ sh j 10) ++ [wd [101, 108, 115, 101]]) ++ sh i 10) ∧ Blk w6 w1.heap.size 42 #[.int .u8 6, .int .i64 3, .int .i64 0, .string (bs [])]) := zh ⟨H5.out.1.trans hk, hm, H5.out.2.2.kp hk hne (by decide)⟩
 clear hk hm
 go_wp2_with fail
 refine bodyPost_ret (results_none rfl _ _ _) rfl ⟨rfl, H6.out.1, ?_⟩
 rw [HSH.out]
 have := H6.out.2.1
 simpa only [List.append_assoc] using this
theorem kid_lt {x : Tw} {ks : List Tr} {k : Tr} {N : Nat} (hk : k ∈ ks) (hl : (Tr.node x ks).flat.length <= N + 1) : k.flat.length <= N := by
 have h := T8.flat_le hk
 rw [Tr.flat, lnc] at hl
 omega
theorem kids_lt {x : Tw} : ∀ {ks : List Tr} {N : Nat}, (Tr.node x ks).flat.length <= N + 1 -> ks.length <= N := by
 intro ks N hl
 rw [Tr.flat, lnc] at hl
 have h : ∀ ks : List Tr, ks.length <= (flats ks).length := by
  intro ks
  induction ks with
  | nil => exact nlr _
  | cons k ks ih =>
   have := flat_pos k
   rw [flats, lna, lnc]
   omega
 have := h ks
 omega
theorem wexpr_step {N : Nat} (hN : N <= 100000) (hE : ExprOk N) (hB : BlockOk N) : ExprOk (N + 1) := by
 intro T hT hl g a l o w ha hm ho
 cases hT with
 | word ho2 =>
  rcases ho2 with rfl | rfl | rfl | rfl
  . exact ex20 N hE hB g a ha l o w hm ho
  . exact ex21 N hE hB g a ha l o w hm ho
  . exact ex22 N hE hB g a ha l o w hm ho
  . exact ex57 N hE hB g a ha l o w hm ho
 | int i => exact ex23 i g a ha l o w hm ho
 | text s => exact ex24 s g a ha l o w hm ho
 | @name s hs =>
  exact ex26 N hE hB s g a ha l o w hm ho
 | @take s hs =>
  exact ex56 N hE hB s g a ha l o w hm ho
 | @list ks h =>
  have hk := fun k hk => ai (h k hk) (kid_lt hk hl)
  have hn9 := kids_lt hl
  exact ex25 N hE hB ks hk (by omega) g a ha l o w hm ho
 | @call op s ks ho2 hs h =>
  have hk := fun k hk => ai (h k hk) (kid_lt hk hl)
  have hn9 := kids_lt hl
  rcases ho2 with rfl | rfl
  . exact ex50 N hE hB ks hk (by omega) s g a ha l o w hm ho
  . exact ex51 N hE hB ks hk (by omega) s g a ha l o w hm ho
 | @one op k ho2 h =>
  have hk : Rt 0 k ∧ k.flat.length <= N := ⟨h, kid_lt (by simp) hl⟩
  rcases ho2 with rfl | rfl | rfl | rfl | rfl
  . exact ex45 N hE hB k hk g a ha l o w hm ho
  . exact ex46 N hE hB k hk g a ha l o w hm ho
  . exact ex47 N hE hB k hk g a ha l o w hm ho
  . exact ex48 N hE hB k hk g a ha l o w hm ho
  . exact ex52 N hE hB k hk g a ha l o w hm ho
 | @num k j h h2 =>
  have hk : Rt 0 k ∧ k.flat.length <= N := ⟨h, kid_lt (by simp) hl⟩
  have hj : Rt 0 j ∧ j.flat.length <= N := ⟨h2, kid_lt (by simp) hl⟩
  exact ex41 N hE hB k j hk hj g a ha l o w hm ho
 | @fork k h =>
  have hk : Rt 1 k ∧ k.flat.length <= N := ⟨h, kid_lt (by simp) hl⟩
  exact ex53 N hE hB k hk g a ha l o w hm ho
 | @not k h =>
  have hk : Rt 0 k ∧ k.flat.length <= N := ⟨h, kid_lt (by simp) hl⟩
  by_cases hw : a <= 3
  . exact ex43 N hE hB k hk g a hw l o w hm ho
  . exact ex43b N hE hB k hk g a (by omega) ha l o w hm ho
 | @pre op k ho2 h =>
  have hk : Rt 0 k ∧ k.flat.length <= N := ⟨h, kid_lt (by simp) hl⟩
  rcases ho2 with rfl | rfl | rfl
  . by_cases hw : a <= 7
    . exact ex44 N hE hB k hk g a hw l o w hm ho
    . exact ex44b N hE hB k hk g a (by omega) ha l o w hm ho
  . by_cases hw : a <= 7
    . exact ex54 N hE hB k hk g a hw l o w hm ho
    . exact ex54b N hE hB k hk g a (by omega) ha l o w hm ho
  . by_cases hw : a <= 7
    . exact ex55 N hE hB k hk g a hw l o w hm ho
    . exact ex55b N hE hB k hk g a (by omega) ha l o w hm ho
 | @at_ k j h h2 =>
  have hk : Rt 0 k ∧ k.flat.length <= N := ⟨h, kid_lt (by simp) hl⟩
  have hj : Rt 0 j ∧ j.flat.length <= N := ⟨h2, kid_lt (by simp) hl⟩
  by_cases hw : a <= 8
  . exact ex42 N hE hB k j hk hj g a hw l o w hm ho
  . exact ex42b N hE hB k j hk hj g a (by omega) ha l o w hm ho
 | @cmp op k j ho3 h h2 =>
  have hk : Rt 0 k ∧ k.flat.length <= N := ⟨h, kid_lt (by simp) hl⟩
  have hj : Rt 0 j ∧ j.flat.length <= N := ⟨h2, kid_lt (by simp) hl⟩
  have ho2 : op = 32 ∨ op = 33 ∨ op = 34 ∨ op = 35 := by omega
  clear ho3
  rcases ho2 with rfl | rfl | rfl | rfl
  . by_cases hw : a <= 4
    . exact ex32 N hE hB k j hk hj g a hw l o w hm ho
    . exact ex32b N hE hB k j hk hj g a (by omega) ha l o w hm ho
  . by_cases hw : a <= 4
    . exact ex33 N hE hB k j hk hj g a hw l o w hm ho
    . exact ex33b N hE hB k j hk hj g a (by omega) ha l o w hm ho
  . by_cases hw : a <= 4
    . exact ex34 N hE hB k j hk hj g a hw l o w hm ho
    . exact ex34b N hE hB k j hk hj g a (by omega) ha l o w hm ho
  . by_cases hw : a <= 4
    . exact ex35 N hE hB k j hk hj g a hw l o w hm ho
    . exact ex35b N hE hB k j hk hj g a (by omega) ha l o w hm ho
 | @bin op k j ho3 h h2 =>
  have hk : Rt 0 k ∧ k.flat.length <= N := ⟨h, kid_lt (by simp) hl⟩
  have hj : Rt 0 j ∧ j.flat.length <= N := ⟨h2, kid_lt (by simp) hl⟩
  have ho2 : op = 30 ∨ op = 31 ∨ op = 36 ∨ op = 37 ∨ op = 38 ∨ op = 39 ∨ op = 40 := by omega
  clear ho3
  rcases ho2 with rfl | rfl | rfl | rfl | rfl | rfl | rfl
  . by_cases hw : a <= 1
    . exact ex30 N hE hB k j hk hj g a hw l o w hm ho
    . exact ex30b N hE hB k j hk hj g a (by omega) ha l o w hm ho
  . by_cases hw : a <= 2
    . exact ex31 N hE hB k j hk hj g a hw l o w hm ho
    . exact ex31b N hE hB k j hk hj g a (by omega) ha l o w hm ho
  . by_cases hw : a <= 5
    . exact ex36 N hE hB k j hk hj g a hw l o w hm ho
    . exact ex36b N hE hB k j hk hj g a (by omega) ha l o w hm ho
  . by_cases hw : a <= 5
    . exact ex37 N hE hB k j hk hj g a hw l o w hm ho
    . exact ex37b N hE hB k j hk hj g a (by omega) ha l o w hm ho
  . by_cases hw : a <= 6
    . exact ex38 N hE hB k j hk hj g a hw l o w hm ho
    . exact ex38b N hE hB k j hk hj g a (by omega) ha l o w hm ho
  . by_cases hw : a <= 6
    . exact ex39 N hE hB k j hk hj g a hw l o w hm ho
    . exact ex39b N hE hB k j hk hj g a (by omega) ha l o w hm ho
  . by_cases hw : a <= 6
    . exact ex40 N hE hB k j hk hj g a hw l o w hm ho
    . exact ex40b N hE hB k j hk hj g a (by omega) ha l o w hm ho
theorem wblock_step {N : Nat} (hN : N <= 100000) (hS : StmtOk N) : BlockOk (N + 1) := by
 intro T hT hl g l o w hm ho
 cases hT with
 | @block ks h => exact wblock_any N hS ks (fun k hk => ⟨h k hk, kid_lt hk hl⟩) (by have := kids_lt hl; omega) g l o w hm ho
theorem wstmt_step {N : Nat} (hE : ExprOk N) (hB : BlockOk N) : StmtOk (N + 1) := by
 intro T hT hl g l o w hm ho
 cases hT with
 | @put op s k ho2 hs h =>
  have hk : Rt 0 k ∧ k.flat.length <= N := ⟨h, kid_lt (by simp) hl⟩
  rcases ho2 with rfl | rfl
  . exact st4 N hE hB k hk s g l o w hm ho
  . exact st5 N hE hB k hk s g l o w hm ho
 | @if2 k j h h2 => exact st62 N hE hB k ⟨h, kid_lt (by simp) hl⟩ j ⟨h2, kid_lt (by simp) hl⟩ g l o w hm ho
 | @if3 k j i h h2 h3 => exact st63 N hE hB k ⟨h, kid_lt (by simp) hl⟩ j ⟨h2, kid_lt (by simp) hl⟩ i ⟨h3, kid_lt (by simp) hl⟩ g l o w hm ho
 | @while_ k j h h2 => exact st7 N hE hB k ⟨h, kid_lt (by simp) hl⟩ j ⟨h2, kid_lt (by simp) hl⟩ g l o w hm ho
 | @do_ op k ho3 h =>
  have hk : Rt 0 k ∧ k.flat.length <= N := ⟨h, kid_lt (by simp) hl⟩
  have ho2 : op = 8 ∨ op = 9 ∨ op = 10 ∨ op = 11 := by omega
  clear ho3
  rcases ho2 with rfl | rfl | rfl | rfl
  . exact st8 N hE hB k hk g l o w hm ho
  . exact st9 N hE hB k hk g l o w hm ho
  . exact st10 N hE hB k hk g l o w hm ho
  . exact st11 N hE hB k hk g l o w hm ho
theorem write_ok : ∀ N : Nat, N <= 100000 -> ExprOk N ∧ BlockOk N ∧ StmtOk N
 | 0, _ => ⟨fun T _ hl => absurd (flat_pos T) (by omega), fun T _ hl => absurd (flat_pos T) (by omega), fun T _ hl => absurd (flat_pos T) (by omega)⟩
 | N + 1, hN => by
  obtain ⟨hE, hB, hS⟩ := write_ok N (by omega)
  exact ⟨wexpr_step (by omega) hE hB, wblock_step (by omega) hS, wstmt_step hE hB⟩
theorem flow_sh (s : ByteArray) (ss : List ByteArray) (b : Tr) : sh (.node ⟨1, ((ss.length + 1 : Nat) : Int), 0, s⟩ (ss.map nameT ++ [b])) 13 = wd [102, 108, 111, 119] :: wt s :: sg [40] :: (commas 12 (shs (ss.map nameT)) ++ sg [41] :: sh b 10) := by
 rw [sh_node]
 show flowS _ _ = _
 unfold flowS
 have e1 : shs (ss.map nameT ++ [b]) = shs (ss.map nameT) ++ [sh b] := by rw [shs_map, shs_map, List.map_append]; rfl
 have e2 : nthS (shs (ss.map nameT) ++ [sh b]) ((shs (ss.map nameT) ++ [sh b]).length - 1) 10 = sh b 10 := by
  unfold nthS
  rw [lna, List.length_singleton, Nat.add_sub_cancel, List.getElem?_append_right (nlr _), Nat.sub_self]
  rfl
 rw [e1, List.dropLast_concat, e2]
theorem name_at {ss : List ByteArray} {j : Nat} {s : ByteArray} (h : ss[j]? = some s) : (ss.map nameT)[j]? = some (nameT s) := by rw [List.getElem?_map, h]; rfl
theorem name_sh12 (s : ByteArray) : sh (nameT s) 12 = [wt s] := by unfold nameT; rw [sh_node]; rfl
theorem name_flat (s : ByteArray) : (nameT s).flat = [⟨2, 0, 0, s⟩] := by unfold nameT; simp [Tr.flat, flats]
theorem wflow_any (N : Nat) (hN : N <= 100000) (s : ByteArray) (ss : List ByteArray) (b : Tr) (hb : Rt 1 b ∧ b.flat.length <= N) (hn9 : ss.length <= 100000) (g : Nat) (l : List Tw) (o : List Tz) (w : World) (hm : WrM w g ((Tr.flat (.node ⟨1, ((ss.length + 1 : Nat) : Int), 0, s⟩ (ss.map nameT ++ [b]))) ++ l) o) (ho : o.length + (sh (.node ⟨1, ((ss.length + 1 : Nat) : Int), 0, s⟩ (ss.map nameT ++ [b])) 13).length <= 1000000) :
 Calls prog 26 #[gp g] w (SPost w g l (o ++ sh (.node ⟨1, ((ss.length + 1 : Nat) : Int), 0, s⟩ (ss.map nameT ++ [b])) 13)) := by
 rw [flow_sh] at ho |-
 have HL : Hid (o.length + (wd [102, 108, 111, 119] :: wt s :: sg [40] :: (commas 12 (shs (ss.map nameT)) ++ sg [41] :: sh b 10)).length <= 1000000) := zh ho
 obtain ⟨ts, hts⟩ : ∃ z, z = ss.map nameT := ⟨_, rfl⟩
 obtain ⟨n, hn⟩ : ∃ z, z = ss.length := ⟨_, rfl⟩
 obtain ⟨m, hm0⟩ : ∃ z, z = n + 1 := ⟨_, rfl⟩
 have HM : Hid (WrM w g (⟨1, (m : Nat), 0, s⟩ :: (flats ts ++ (b.flat ++ l))) o) := zh (by rw [hm0, hn, hts]; simpa [Tr.flat, flats_append, flats] using hm)
 rw [<- hts] at HL |-
 have hm1 : (m : Int) - 1 = (n : Int) := by omega
 have HH := zh (ai hts (ai hn (ai hm0 (ai hb ((write_ok N hN).2.1)))))
 rw [<- hn] at hn9
 have hm9 : 1 <= m ∧ m <= 100001 := by omega
 clear hm ho hts hn hm0 hb
 go_in
 go_wp2_with fail
 refine (next_any g ⟨1, (m : Nat), 0, s⟩ (flats ts ++ (b.flat ++ l)) o w HM.out).mono ?_
 rintro e w1 ⟨rfl, hk1, hm1'⟩
 have H0 := zh (nwG (l := flats ts ++ (b.flat ++ l)) (o := o) hk1 hm1' 42 #[.int .u8 1, .int .i64 (m : Nat), .int .i64 0, .string s])
 have hne : w1.heap.size ≠ g := by have := hm1'.lt; omega
 clear hk1 hm1' HM
 go_upto_region 1 with fail
 generalize w1.alloc _ = wa at *
 have c1 := H0.out.2.2.cell 1
 have c3 := H0.out.2.2.cell 3
 simp at c1 c3
 go_wp2_with fail
 refine (word2 (bs [102, 108, 111, 119]) s H0.out.2.1 (by have := HL.out; (try simp only [lna, lnc, lnn] at this |-); omega)).mono ?_
 rintro e w2 ⟨rfl, hk, hm⟩
 have H2 : Hid (Kp g w w2 ∧ WrM w2 g (flats ts ++ (b.flat ++ l)) (o ++ [wd [102, 108, 111, 119], wt s]) ∧ Blk w2 w1.heap.size 42 #[.int .u8 1, .int .i64 (m : Nat), .int .i64 0, .string s]) := zh ⟨H0.out.1.trans hk, hm, H0.out.2.2.kp hk hne (by decide)⟩
 clear hk hm c1 c3
 go_wp2_with fail
 refine (sign1 (bs [40]) H2.out.2.1 (by have := HL.out; (try simp only [lna, lnc, lnn] at this |-); omega)).mono ?_
 rintro e w3 ⟨rfl, hk, hm⟩
 have H3 : Hid (Kp g w w3 ∧ WrM w3 g (flats ts ++ (b.flat ++ l)) ((o ++ [wd [102, 108, 111, 119], wt s]) ++ [sg [40]]) ∧ Blk w3 w1.heap.size 42 #[.int .u8 1, .int .i64 (m : Nat), .int .i64 0, .string s]) := zh ⟨H2.out.1.trans hk, hm, H2.out.2.2.kp hk hne (by decide)⟩
 clear hk hm
 have c1 := H3.out.2.2.cell 1
 simp at c1
 go_wp2_with fail
 go_loopw [17] (fun s17 wr => ∃ j : Nat, s17 = .int .i64 (j : Nat) ∧ j <= n ∧ Kp g w wr ∧ WrM wr g (flats (ts.drop j) ++ (b.flat ++ l)) ((o ++ [wd [102, 108, 111, 119], wt s]) ++ sg [40] :: commas 12 (shs (ts.take j)))) (fun s17 _ => n - (intOf s17).toNat)
 case atStart => exact ⟨0, rfl, by omega, H3.out.1, by rw [List.drop_zero, List.take_zero, shs, commas]; exact H3.out.2.1⟩
 case round =>
  clear c1
  obtain ⟨j, rfl, hj, hk, hm⟩ := hrel
  have HW := zh (ai hk hm)
  clear hk hm
  by_cases hlt : j < n
  . have hd : decide ((j : Int) < (n : Int)) = true := dqt (by omega)
    obtain ⟨sj, hs⟩ : ∃ sj, ss[j]? = some sj := by
     have : j < ss.length := by rw [<- HH.out.2.1]; exact hlt
     exact ⟨_, List.getElem?_eq_getElem this⟩
    have HK : Hid (ts[j]? = some (nameT sj)) := zh (by rw [HH.out.1]; exact name_at hs)
    clear hs
    have HLL : Hid (o.length + 3 + (commas 12 (shs (ts.take (j + 1)))).length + 1 <= 1000000) := zh (by have h1 := take_len 12 ts (j + 1); have := HL.out; simp only [lna, lnc] at this; omega)
    have HD : Hid (flats (ts.drop j) ++ (b.flat ++ l) = ⟨2, 0, 0, sj⟩ :: (flats (ts.drop (j + 1)) ++ (b.flat ++ l))) := zh (by rw [drop_flats ts HK.out, List.append_assoc, name_flat]; rfl)
    have hfld : ∀ W, (Instr.field 42 (twV ⟨2, 0, 0, sj⟩) 3).run prog W = .ok (.string sj) W := fun W => by kernel_rfl
    by_cases h0 : j = 0
    . subst h0
      have HC : Hid (commas 12 (shs (ts.take (0 + 1))) = [wt sj]) := zh (by rw [take_shs ts HK.out, List.take_zero, shs]; exact name_sh12 sj)
      go_wp2_with fail
      refine (next_any g ⟨2, 0, 0, sj⟩ _ _ wr (by rw [<- HD.out]; exact HW.out.2)).mono ?_
      rintro e w4 ⟨rfl, hk4, hm4⟩
      have H4 := zh (ai hk4 hm4)
      clear hk4 hm4
      go_wp2_with fail
      refine (word1 sj H4.out.2 (by have := HLL.out; rw [HC.out] at this; rw [List.take_zero, shs, commas]; simp only [lna, lnc, lnn] at this |-; omega)).mono ?_
      rintro e w5 ⟨rfl, hk5, hm5⟩
      have H5 := zh (ai hk5 hm5)
      clear hk5 hm5
      go_wp2_with fail
      go_roundw
      case rel =>
       refine ⟨1, by go_num, by omega, (HW.out.1.trans H4.out.1).trans H5.out.1, ?_⟩
       have := H5.out.2
       rw [List.take_zero, shs, commas, List.append_assoc] at this
       rw [HC.out]
       exact this
      case measure => simp [intOf]; omega
    . have h0' : decide ((0 : Int) < (j : Int)) = true := dqt (by omega)
      have HC : Hid (commas 12 (shs (ts.take (j + 1))) = commas 12 (shs (ts.take j)) ++ sg [44] :: [wt sj]) := zh (by
       rw [take_shs ts HK.out, commas_snoc, if_neg, name_sh12]
       intro he
       have := congrArg List.length he
       rw [shs_len, List.length_take, HH.out.1, List.length_map, <- HH.out.2.1, lnn] at this
       omega)
      go_wp2_with fail
      refine (sign1 (bs [44]) HW.out.2 (by have := HLL.out; rw [HC.out] at this; simp only [lna, lnc, lnn] at this |-; omega)).mono ?_
      rintro e w3' ⟨rfl, hk3, hm3⟩
      have H3' := zh (ai hk3 hm3)
      clear hk3 hm3
      go_wp2_with fail
      refine (next_any g ⟨2, 0, 0, sj⟩ _ _ w3' (by rw [<- HD.out]; exact H3'.out.2)).mono ?_
      rintro e w4 ⟨rfl, hk4, hm4⟩
      have H4 := zh (ai hk4 hm4)
      clear hk4 hm4
      go_wp2_with fail
      refine (word1 sj H4.out.2 (by have := HLL.out; rw [HC.out] at this; simp only [lna, lnc, lnn] at this |-; omega)).mono ?_
      rintro e w5 ⟨rfl, hk5, hm5⟩
      have H5 := zh (ai hk5 hm5)
      clear hk5 hm5
      go_wp2_with fail
      go_roundw
      case rel =>
       refine ⟨j + 1, by go_num, by omega, ((HW.out.1.trans H3'.out.1).trans H4.out.1).trans H5.out.1, ?_⟩
       have := H5.out.2
       rw [HC.out]
       rw [List.append_assoc, List.append_assoc, List.cons_append] at this
       exact this
      case measure => simp [intOf]; omega
  . have hd : decide ((j : Int) < (n : Int)) = false := dqf (by omega)
    have HE : Hid (WrM wr g (b.flat ++ l) ((o ++ [wd [102, 108, 111, 119], wt s]) ++ sg [40] :: commas 12 (shs ts))) := zh (by
     have := HW.out.2
     rwa [List.take_of_length_le (by rw [HH.out.1, List.length_map, <- HH.out.2.1]; omega), List.drop_of_length_le (by rw [HH.out.1, List.length_map, <- HH.out.2.1]; omega), flats, List.nil_append] at this)
    go_wp2_with fail
    refine (sign1 (bs [41]) HE.out (by have := HL.out; (try simp only [lna, lnc, lnn] at this |-); omega)).mono ?_
    rintro e w6 ⟨rfl, hk6, hm6⟩
    have H6 := zh (ai hk6 hm6)
    clear hk6 hm6
    go_wp2_with fail
    refine (HH.out.2.2.2.2 b HH.out.2.2.2.1.1 HH.out.2.2.2.1.2 g _ _ _ H6.out.2 (by have := HL.out; (try simp only [lna, lnc, lnn] at this |-); omega)).mono ?_
    rintro e w7 ⟨rfl, hk7, hm7⟩
    have H7 := zh (ai hk7 hm7)
    clear hk7 hm7
    go_wp2_with fail
    refine bodyPost_ret (results_none rfl _ _ _) rfl ⟨rfl, (HW.out.1.trans H6.out.1).trans H7.out.1, ?_⟩
    have := H7.out.2
    simpa only [List.append_assoc, List.cons_append, List.nil_append, sgB_sg] using this
end Go.Proofs.YtbcadlocldplfaaDoor
