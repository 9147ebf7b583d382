/- The document's fine: one way through it. -/
import Derived.Deep.QuietTactic
import Derived.BigQuiet
import Derived.Test.YtpdofcjgpomehaaRfp
namespace Go.Proofs.Ytpdofcjgpomehaa
open Go.RowKit

set_option maxRecDepth 100000 in
set_option maxHeartbeats 8000000 in
theorem refFine_2 (x : Tw) (w : World) (hx : TwOk x) (heb0 : exprB x.op = false) (hsb0 : stmtB x.op = true) : Calls Try.prog 31 #[.agg (twCells x)] w fun e w' => e = .returned (.bool (fineB x (fun _ => true))) ∧ Below w.heap.size w w' := by
  rw [← fineR_eq]
  obtain ⟨op, kids, int, text⟩ := x
  obtain ⟨o1, o2, o3, o4, o5, o6⟩ := hx
  dsimp only at o1 o2 o3 o4 o5 o6 heb0 hsb0
  have HBK := Lib.hid (Blk.new w 33 (twCells ⟨op, kids, int, text⟩))
  have HB0 := Lib.hid ((Below.refl w.heap.size w).alloc (Nat.le_refl _) (.cells (twCells ⟨op, kids, int, text⟩) 33))
  have HE := Lib.hid (fun W => refExpr_any op W o1)
  have HS := Lib.hid (fun W => refStmt_any op W o1)
  have HN := Lib.hid (fun W => named_any op W o1)
  have HO := Lib.hid (fun W => refOwn_any text W (by unfold maxLen at o6; omega))
  have HL := Lib.hid (fun W => least_any op W o1)
  have HM := Lib.hid (fun W => most_any op W o1)
  obtain ⟨R, hR⟩ : ∃ R, R = fineR ⟨op, kids, int, text⟩ := ⟨_, rfl⟩
  rw [← hR]
  unfold fineR at hR
  dsimp only at hR
  have HR := Lib.hid hR
  have o7 : text.size ≤ 9223372036854775807 := by unfold maxLen at o6; omega
  clear hR o6
  obtain ⟨lf, hlf⟩ : ∃ z, z = leastF op := ⟨_, rfl⟩
  have hlf2 : lf ≤ 2 := by rw [hlf]; exact leastF_le op
  obtain ⟨mf, hmf⟩ : ∃ z, z = mostF op := ⟨_, rfl⟩
  rw [← hlf] at HR HL
  rw [← hmf] at HR HM
  rw [heb0] at HR HE
  rw [hsb0] at HR HS
  obtain ⟨nb, hnb⟩ : ∃ z, z = namedB op := ⟨_, rfl⟩
  obtain ⟨ob, hob⟩ : ∃ z, z = (nameB text.toList && !kw text.toList) := ⟨_, rfl⟩
  rw [← hnb] at HR HN
  rw [← hob] at HR HO
  clear hlf hmf heb0 hsb0 hnb hob
  dsimp only [twCells] at HBK HB0 ⊢
  go_enter Try.func31, Try.ntmps31
  go_wp2_with fail
  generalize w.alloc (.cells #[.int .u8 (op : Nat), .int .i64 kids, .int .i64 int, .string text] 33) = w0 at *
  obtain ⟨bx, hbx⟩ : ∃ g, g = w.heap.size := ⟨_, rfl⟩
  rw [← hbx] at HBK ⊢
  clear hbx
  have HX : Hid (Blk w0 bx 33 #[.int .u8 (op : Nat), .int .i64 kids, .int .i64 int, .string text]) := HBK.out
  have y0 : w0.cell? ⟨bx, 0, none⟩ = some (.int .u8 (op : Nat)) := HX.out.cell 0
  have y1 : w0.cell? ⟨bx, 1, none⟩ = some (.int .i64 kids) := HX.out.cell 1
  have y2 : w0.cell? ⟨bx, 2, none⟩ = some (.int .i64 int) := HX.out.cell 2
  have y3 : w0.cell? ⟨bx, 3, none⟩ = some (.string text) := HX.out.cell 3
  have HR0 := Lib.hid (show R = ((if nb = true then ob else if op = 24 then decide (text.size ≤ 4095) else text.toList.isEmpty) && (decide (0 ≤ int ∧ (int = 0 ∨ op = 23)) && (decide ((lf : Int) ≤ kids) && decide (mf < 0 ∧ kids ≤ 2048 ∨ 0 ≤ mf ∧ kids ≤ mf)))) from by rw [HR.out]; rfl)
  clear HR
  go_wp2_with fail
  refine (HE.out w0).mono ?_
  rintro e w9 ⟨rfl, hw9⟩
  rw [hw9]
  clear hw9 w9
  go_wp2_with fail
  refine (HS.out w0).mono ?_
  rintro e w9 ⟨rfl, hw9⟩
  rw [hw9]
  clear hw9 w9
  go_wp2_with fail
  refine (HN.out w0).mono ?_
  rintro e w9 ⟨rfl, hw9⟩
  rw [hw9]
  clear hw9 w9
  cases nb
  · by_cases h24 : op = 24
    · have d24 : ((op : Int) == 24) = true := by rw [h24]; rfl
      by_cases hsz : 4095 < text.size
      · have dsz : decide ((4095 : Int) < (text.size : Int)) = true := decide_eq_true (by omega)
        have HRF := Lib.hid (show R = false from by rw [HR0.out, if_neg (by simp), if_pos h24, decide_eq_false (by omega)]; rfl)
        clear h24
        go_wp2_with fail
        go_ret
        exact ⟨ret_bool (by rw [HRF.out]), HB0.out⟩
      · have dsz : decide ((4095 : Int) < (text.size : Int)) = false := decide_eq_false (by omega)
        have HR := Lib.hid (show R = (decide (0 ≤ int ∧ (int = 0 ∨ op = 23)) && (decide ((lf : Int) ≤ kids) && decide (mf < 0 ∧ kids ≤ 2048 ∨ 0 ≤ mf ∧ kids ≤ mf))) from by rw [HR0.out, if_neg (by simp), if_pos h24, decide_eq_true (show text.size ≤ 4095 from by omega), Bool.true_and])
        clear h24
        by_cases t1 : int < 0
        · have d1 : decide (int < 0) = true := decide_eq_true t1
          have HRF := Lib.hid (show R = false from by rw [HR.out, decide_eq_false (show ¬ (0 ≤ int ∧ (int = 0 ∨ op = 23)) from by omega)]; rfl)
          go_wp2_with fail
          go_ret
          exact ⟨ret_bool (by rw [HRF.out]), HB0.out⟩
        · have d1 : decide (int < 0) = false := decide_eq_false t1
          by_cases t2 : 0 < int ∧ op ≠ 23
          · obtain ⟨t3, t4⟩ := t2
            have d2 : decide (0 < int) = true := decide_eq_true t3
            have d3 : ((op : Int) != 23) = true := by rw [bne_iff_ne]; omega
            have HRF := Lib.hid (show R = false from by rw [HR.out, decide_eq_false (show ¬ (0 ≤ int ∧ (int = 0 ∨ op = 23)) from by omega)]; rfl)
            go_wp2_with fail
            go_ret
            exact ⟨ret_bool (by rw [HRF.out]), HB0.out⟩
          · have HR2 := Lib.hid (show R = (decide ((lf : Int) ≤ kids) && decide (mf < 0 ∧ kids ≤ 2048 ∨ 0 ≤ mf ∧ kids ≤ mf)) from by rw [HR.out, decide_eq_true (show 0 ≤ int ∧ (int = 0 ∨ op = 23) from by omega)]; rfl)
            clear HR
            have dd : ∃ u v : Bool, decide (0 < int) = u ∧ ((op : Int) != 23) = v ∧ (u && v) = false := by
              refine ⟨_, _, rfl, rfl, ?_⟩
              rw [Bool.and_eq_false_iff, decide_eq_false_iff_not, bne_eq_false_iff_eq]
              omega
            obtain ⟨u, v, hu, hv, huv⟩ := dd
            cases u
            · clear t1 t2
              by_cases k1 : (lf : Int) ≤ kids
              · have d4 : decide ((lf : Int) ≤ kids) = true := decide_eq_true k1
                by_cases m0 : mf < 0
                · have d5 : decide (mf < 0) = true := decide_eq_true m0
                  by_cases k2 : kids ≤ 2048
                  · have d6 : decide (kids ≤ 2048) = true := decide_eq_true k2
                    have HRV := Lib.hid (show R = true from by rw [HR2.out, d4, decide_eq_true (.inl ⟨m0, k2⟩)]; rfl)
                    go_wp2_with fail
                    go_quiet (first | (refine Calls.quiet_of_same (HL.out _)) | (refine Calls.quiet_of_same (HM.out _)))
                    go_wp2_with fail
                    go_ret
                    exact ⟨ret_bool (by rw [HRV.out]), below_drewN HB0.out nq⟩
                  · have d6 : decide (kids ≤ 2048) = false := decide_eq_false k2
                    have d7 : decide (kids ≤ mf) = false := decide_eq_false (by omega)
                    have HRV := Lib.hid (show R = false from by rw [HR2.out, decide_eq_false (show ¬ (mf < 0 ∧ kids ≤ 2048 ∨ 0 ≤ mf ∧ kids ≤ mf) from by omega), Bool.and_false])
                    go_wp2_with fail
                    go_quiet (first | (refine Calls.quiet_of_same (HL.out _)) | (refine Calls.quiet_of_same (HM.out _)))
                    go_wp2_with fail
                    go_ret
                    exact ⟨ret_bool (by rw [HRV.out]), below_drewN HB0.out nq⟩
                · have d5 : decide (mf < 0) = false := decide_eq_false m0
                  by_cases k2 : kids ≤ mf
                  · have d6 : decide (kids ≤ mf) = true := decide_eq_true k2
                    have HRV := Lib.hid (show R = true from by rw [HR2.out, d4, decide_eq_true (show mf < 0 ∧ kids ≤ 2048 ∨ 0 ≤ mf ∧ kids ≤ mf from by omega)]; rfl)
                    go_wp2_with fail
                    go_quiet (first | (refine Calls.quiet_of_same (HL.out _)) | (refine Calls.quiet_of_same (HM.out _)))
                    go_wp2_with fail
                    go_ret
                    exact ⟨ret_bool (by rw [HRV.out]), below_drewN HB0.out nq⟩
                  · have d6 : decide (kids ≤ mf) = false := decide_eq_false k2
                    have HRV := Lib.hid (show R = false from by rw [HR2.out, decide_eq_false (show ¬ (mf < 0 ∧ kids ≤ 2048 ∨ 0 ≤ mf ∧ kids ≤ mf) from by omega), Bool.and_false])
                    go_wp2_with fail
                    go_quiet (first | (refine Calls.quiet_of_same (HL.out _)) | (refine Calls.quiet_of_same (HM.out _)))
                    go_wp2_with fail
                    go_ret
                    exact ⟨ret_bool (by rw [HRV.out]), below_drewN HB0.out nq⟩
              · have d4 : decide ((lf : Int) ≤ kids) = false := decide_eq_false k1
                have HRV := Lib.hid (show R = false from by rw [HR2.out, d4]; rfl)
                go_wp2_with fail
                go_quiet (first | (refine Calls.quiet_of_same (HL.out _)) | (refine Calls.quiet_of_same (HM.out _)))
                go_wp2_with fail
                go_ret
                exact ⟨ret_bool (by rw [HRV.out]), below_drewN HB0.out nq⟩
            · cases v
              · clear t1 t2
                by_cases k1 : (lf : Int) ≤ kids
                · have d4 : decide ((lf : Int) ≤ kids) = true := decide_eq_true k1
                  by_cases m0 : mf < 0
                  · have d5 : decide (mf < 0) = true := decide_eq_true m0
                    by_cases k2 : kids ≤ 2048
                    · have d6 : decide (kids ≤ 2048) = true := decide_eq_true k2
                      have HRV := Lib.hid (show R = true from by rw [HR2.out, d4, decide_eq_true (.inl ⟨m0, k2⟩)]; rfl)
                      go_wp2_with fail
                      go_quiet (first | (refine Calls.quiet_of_same (HL.out _)) | (refine Calls.quiet_of_same (HM.out _)))
                      go_wp2_with fail
                      go_ret
                      exact ⟨ret_bool (by rw [HRV.out]), below_drewN HB0.out nq⟩
                    · have d6 : decide (kids ≤ 2048) = false := decide_eq_false k2
                      have d7 : decide (kids ≤ mf) = false := decide_eq_false (by omega)
                      have HRV := Lib.hid (show R = false from by rw [HR2.out, decide_eq_false (show ¬ (mf < 0 ∧ kids ≤ 2048 ∨ 0 ≤ mf ∧ kids ≤ mf) from by omega), Bool.and_false])
                      go_wp2_with fail
                      go_quiet (first | (refine Calls.quiet_of_same (HL.out _)) | (refine Calls.quiet_of_same (HM.out _)))
                      go_wp2_with fail
                      go_ret
                      exact ⟨ret_bool (by rw [HRV.out]), below_drewN HB0.out nq⟩
                  · have d5 : decide (mf < 0) = false := decide_eq_false m0
                    by_cases k2 : kids ≤ mf
                    · have d6 : decide (kids ≤ mf) = true := decide_eq_true k2
                      have HRV := Lib.hid (show R = true from by rw [HR2.out, d4, decide_eq_true (show mf < 0 ∧ kids ≤ 2048 ∨ 0 ≤ mf ∧ kids ≤ mf from by omega)]; rfl)
                      go_wp2_with fail
                      go_quiet (first | (refine Calls.quiet_of_same (HL.out _)) | (refine Calls.quiet_of_same (HM.out _)))
                      go_wp2_with fail
                      go_ret
                      exact ⟨ret_bool (by rw [HRV.out]), below_drewN HB0.out nq⟩
                    · have d6 : decide (kids ≤ mf) = false := decide_eq_false k2
                      have HRV := Lib.hid (show R = false from by rw [HR2.out, decide_eq_false (show ¬ (mf < 0 ∧ kids ≤ 2048 ∨ 0 ≤ mf ∧ kids ≤ mf) from by omega), Bool.and_false])
                      go_wp2_with fail
                      go_quiet (first | (refine Calls.quiet_of_same (HL.out _)) | (refine Calls.quiet_of_same (HM.out _)))
                      go_wp2_with fail
                      go_ret
                      exact ⟨ret_bool (by rw [HRV.out]), below_drewN HB0.out nq⟩
                · have d4 : decide ((lf : Int) ≤ kids) = false := decide_eq_false k1
                  have HRV := Lib.hid (show R = false from by rw [HR2.out, d4]; rfl)
                  go_wp2_with fail
                  go_quiet (first | (refine Calls.quiet_of_same (HL.out _)) | (refine Calls.quiet_of_same (HM.out _)))
                  go_wp2_with fail
                  go_ret
                  exact ⟨ret_bool (by rw [HRV.out]), below_drewN HB0.out nq⟩
              · cases huv
    · have d24 : ((op : Int) == 24) = false := eqf (by omega)
      cases hem : text.toList.isEmpty
      · have HRF := Lib.hid (show R = false from by rw [HR0.out, if_neg (by simp), if_neg h24, hem]; rfl)
        clear h24
        go_wp2_with fail
        go_ret
        exact ⟨ret_bool (by rw [HRF.out]), HB0.out⟩
      · have HR := Lib.hid (show R = (decide (0 ≤ int ∧ (int = 0 ∨ op = 23)) && (decide ((lf : Int) ≤ kids) && decide (mf < 0 ∧ kids ≤ 2048 ∨ 0 ≤ mf ∧ kids ≤ mf))) from by rw [HR0.out, if_neg (by simp), if_neg h24, hem, Bool.true_and])
        clear h24
        by_cases t1 : int < 0
        · have d1 : decide (int < 0) = true := decide_eq_true t1
          have HRF := Lib.hid (show R = false from by rw [HR.out, decide_eq_false (show ¬ (0 ≤ int ∧ (int = 0 ∨ op = 23)) from by omega)]; rfl)
          go_wp2_with fail
          go_ret
          exact ⟨ret_bool (by rw [HRF.out]), HB0.out⟩
        · have d1 : decide (int < 0) = false := decide_eq_false t1
          by_cases t2 : 0 < int ∧ op ≠ 23
          · obtain ⟨t3, t4⟩ := t2
            have d2 : decide (0 < int) = true := decide_eq_true t3
            have d3 : ((op : Int) != 23) = true := by rw [bne_iff_ne]; omega
            have HRF := Lib.hid (show R = false from by rw [HR.out, decide_eq_false (show ¬ (0 ≤ int ∧ (int = 0 ∨ op = 23)) from by omega)]; rfl)
            go_wp2_with fail
            go_ret
            exact ⟨ret_bool (by rw [HRF.out]), HB0.out⟩
          · have HR2 := Lib.hid (show R = (decide ((lf : Int) ≤ kids) && decide (mf < 0 ∧ kids ≤ 2048 ∨ 0 ≤ mf ∧ kids ≤ mf)) from by rw [HR.out, decide_eq_true (show 0 ≤ int ∧ (int = 0 ∨ op = 23) from by omega)]; rfl)
            clear HR
            have dd : ∃ u v : Bool, decide (0 < int) = u ∧ ((op : Int) != 23) = v ∧ (u && v) = false := by
              refine ⟨_, _, rfl, rfl, ?_⟩
              rw [Bool.and_eq_false_iff, decide_eq_false_iff_not, bne_eq_false_iff_eq]
              omega
            obtain ⟨u, v, hu, hv, huv⟩ := dd
            cases u
            · clear t1 t2
              by_cases k1 : (lf : Int) ≤ kids
              · have d4 : decide ((lf : Int) ≤ kids) = true := decide_eq_true k1
                by_cases m0 : mf < 0
                · have d5 : decide (mf < 0) = true := decide_eq_true m0
                  by_cases k2 : kids ≤ 2048
                  · have d6 : decide (kids ≤ 2048) = true := decide_eq_true k2
                    have HRV := Lib.hid (show R = true from by rw [HR2.out, d4, decide_eq_true (.inl ⟨m0, k2⟩)]; rfl)
                    go_wp2_with fail
                    go_quiet (first | (refine Calls.quiet_of_same (HL.out _)) | (refine Calls.quiet_of_same (HM.out _)))
                    go_wp2_with fail
                    go_ret
                    exact ⟨ret_bool (by rw [HRV.out]), below_drewN HB0.out nq⟩
                  · have d6 : decide (kids ≤ 2048) = false := decide_eq_false k2
                    have d7 : decide (kids ≤ mf) = false := decide_eq_false (by omega)
                    have HRV := Lib.hid (show R = false from by rw [HR2.out, decide_eq_false (show ¬ (mf < 0 ∧ kids ≤ 2048 ∨ 0 ≤ mf ∧ kids ≤ mf) from by omega), Bool.and_false])
                    go_wp2_with fail
                    go_quiet (first | (refine Calls.quiet_of_same (HL.out _)) | (refine Calls.quiet_of_same (HM.out _)))
                    go_wp2_with fail
                    go_ret
                    exact ⟨ret_bool (by rw [HRV.out]), below_drewN HB0.out nq⟩
                · have d5 : decide (mf < 0) = false := decide_eq_false m0
                  by_cases k2 : kids ≤ mf
                  · have d6 : decide (kids ≤ mf) = true := decide_eq_true k2
                    have HRV := Lib.hid (show R = true from by rw [HR2.out, d4, decide_eq_true (show mf < 0 ∧ kids ≤ 2048 ∨ 0 ≤ mf ∧ kids ≤ mf from by omega)]; rfl)
                    go_wp2_with fail
                    go_quiet (first | (refine Calls.quiet_of_same (HL.out _)) | (refine Calls.quiet_of_same (HM.out _)))
                    go_wp2_with fail
                    go_ret
                    exact ⟨ret_bool (by rw [HRV.out]), below_drewN HB0.out nq⟩
                  · have d6 : decide (kids ≤ mf) = false := decide_eq_false k2
                    have HRV := Lib.hid (show R = false from by rw [HR2.out, decide_eq_false (show ¬ (mf < 0 ∧ kids ≤ 2048 ∨ 0 ≤ mf ∧ kids ≤ mf) from by omega), Bool.and_false])
                    go_wp2_with fail
                    go_quiet (first | (refine Calls.quiet_of_same (HL.out _)) | (refine Calls.quiet_of_same (HM.out _)))
                    go_wp2_with fail
                    go_ret
                    exact ⟨ret_bool (by rw [HRV.out]), below_drewN HB0.out nq⟩
              · have d4 : decide ((lf : Int) ≤ kids) = false := decide_eq_false k1
                have HRV := Lib.hid (show R = false from by rw [HR2.out, d4]; rfl)
                go_wp2_with fail
                go_quiet (first | (refine Calls.quiet_of_same (HL.out _)) | (refine Calls.quiet_of_same (HM.out _)))
                go_wp2_with fail
                go_ret
                exact ⟨ret_bool (by rw [HRV.out]), below_drewN HB0.out nq⟩
            · cases v
              · clear t1 t2
                by_cases k1 : (lf : Int) ≤ kids
                · have d4 : decide ((lf : Int) ≤ kids) = true := decide_eq_true k1
                  by_cases m0 : mf < 0
                  · have d5 : decide (mf < 0) = true := decide_eq_true m0
                    by_cases k2 : kids ≤ 2048
                    · have d6 : decide (kids ≤ 2048) = true := decide_eq_true k2
                      have HRV := Lib.hid (show R = true from by rw [HR2.out, d4, decide_eq_true (.inl ⟨m0, k2⟩)]; rfl)
                      go_wp2_with fail
                      go_quiet (first | (refine Calls.quiet_of_same (HL.out _)) | (refine Calls.quiet_of_same (HM.out _)))
                      go_wp2_with fail
                      go_ret
                      exact ⟨ret_bool (by rw [HRV.out]), below_drewN HB0.out nq⟩
                    · have d6 : decide (kids ≤ 2048) = false := decide_eq_false k2
                      have d7 : decide (kids ≤ mf) = false := decide_eq_false (by omega)
                      have HRV := Lib.hid (show R = false from by rw [HR2.out, decide_eq_false (show ¬ (mf < 0 ∧ kids ≤ 2048 ∨ 0 ≤ mf ∧ kids ≤ mf) from by omega), Bool.and_false])
                      go_wp2_with fail
                      go_quiet (first | (refine Calls.quiet_of_same (HL.out _)) | (refine Calls.quiet_of_same (HM.out _)))
                      go_wp2_with fail
                      go_ret
                      exact ⟨ret_bool (by rw [HRV.out]), below_drewN HB0.out nq⟩
                  · have d5 : decide (mf < 0) = false := decide_eq_false m0
                    by_cases k2 : kids ≤ mf
                    · have d6 : decide (kids ≤ mf) = true := decide_eq_true k2
                      have HRV := Lib.hid (show R = true from by rw [HR2.out, d4, decide_eq_true (show mf < 0 ∧ kids ≤ 2048 ∨ 0 ≤ mf ∧ kids ≤ mf from by omega)]; rfl)
                      go_wp2_with fail
                      go_quiet (first | (refine Calls.quiet_of_same (HL.out _)) | (refine Calls.quiet_of_same (HM.out _)))
                      go_wp2_with fail
                      go_ret
                      exact ⟨ret_bool (by rw [HRV.out]), below_drewN HB0.out nq⟩
                    · have d6 : decide (kids ≤ mf) = false := decide_eq_false k2
                      have HRV := Lib.hid (show R = false from by rw [HR2.out, decide_eq_false (show ¬ (mf < 0 ∧ kids ≤ 2048 ∨ 0 ≤ mf ∧ kids ≤ mf) from by omega), Bool.and_false])
                      go_wp2_with fail
                      go_quiet (first | (refine Calls.quiet_of_same (HL.out _)) | (refine Calls.quiet_of_same (HM.out _)))
                      go_wp2_with fail
                      go_ret
                      exact ⟨ret_bool (by rw [HRV.out]), below_drewN HB0.out nq⟩
                · have d4 : decide ((lf : Int) ≤ kids) = false := decide_eq_false k1
                  have HRV := Lib.hid (show R = false from by rw [HR2.out, d4]; rfl)
                  go_wp2_with fail
                  go_quiet (first | (refine Calls.quiet_of_same (HL.out _)) | (refine Calls.quiet_of_same (HM.out _)))
                  go_wp2_with fail
                  go_ret
                  exact ⟨ret_bool (by rw [HRV.out]), below_drewN HB0.out nq⟩
              · cases huv
  · go_wp2_with fail
    refine (HO.out w0).mono ?_
    rintro e w5 ⟨rfl, hb5⟩
    have HX5 := Lib.hid (HX.out.below hb5 HX.out.lt)
    have HB5 := Lib.hid (HB0.out.trans (hb5.mono HB0.out.size))
    have z0 : w5.cell? ⟨bx, 0, none⟩ = some (.int .u8 (op : Nat)) := HX5.out.cell 0
    have z1 : w5.cell? ⟨bx, 1, none⟩ = some (.int .i64 kids) := HX5.out.cell 1
    have z2 : w5.cell? ⟨bx, 2, none⟩ = some (.int .i64 int) := HX5.out.cell 2
    have z3 : w5.cell? ⟨bx, 3, none⟩ = some (.string text) := HX5.out.cell 3
    clear hb5 y0 y1 y2 y3
    cases ob
    · have HRF := Lib.hid (show R = false from by rw [HR0.out]; rfl)
      go_wp2_with fail
      go_ret
      exact ⟨ret_bool (by rw [HRF.out]), HB5.out⟩
    · have HR := Lib.hid (show R = (decide (0 ≤ int ∧ (int = 0 ∨ op = 23)) && (decide ((lf : Int) ≤ kids) && decide (mf < 0 ∧ kids ≤ 2048 ∨ 0 ≤ mf ∧ kids ≤ mf))) from by rw [HR0.out]; rfl)
      by_cases t1 : int < 0
      · have d1 : decide (int < 0) = true := decide_eq_true t1
        have HRF := Lib.hid (show R = false from by rw [HR.out, decide_eq_false (show ¬ (0 ≤ int ∧ (int = 0 ∨ op = 23)) from by omega)]; rfl)
        go_wp2_with fail
        go_ret
        exact ⟨ret_bool (by rw [HRF.out]), HB5.out⟩
      · have d1 : decide (int < 0) = false := decide_eq_false t1
        by_cases t2 : 0 < int ∧ op ≠ 23
        · obtain ⟨t3, t4⟩ := t2
          have d2 : decide (0 < int) = true := decide_eq_true t3
          have d3 : ((op : Int) != 23) = true := by rw [bne_iff_ne]; omega
          have HRF := Lib.hid (show R = false from by rw [HR.out, decide_eq_false (show ¬ (0 ≤ int ∧ (int = 0 ∨ op = 23)) from by omega)]; rfl)
          go_wp2_with fail
          go_ret
          exact ⟨ret_bool (by rw [HRF.out]), HB5.out⟩
        · have HR2 := Lib.hid (show R = (decide ((lf : Int) ≤ kids) && decide (mf < 0 ∧ kids ≤ 2048 ∨ 0 ≤ mf ∧ kids ≤ mf)) from by rw [HR.out, decide_eq_true (show 0 ≤ int ∧ (int = 0 ∨ op = 23) from by omega)]; rfl)
          clear HR
          have dd : ∃ u v : Bool, decide (0 < int) = u ∧ ((op : Int) != 23) = v ∧ (u && v) = false := by
            refine ⟨_, _, rfl, rfl, ?_⟩
            rw [Bool.and_eq_false_iff, decide_eq_false_iff_not, bne_eq_false_iff_eq]
            omega
          obtain ⟨u, v, hu, hv, huv⟩ := dd
          cases u
          · clear t1 t2
            by_cases k1 : (lf : Int) ≤ kids
            · have d4 : decide ((lf : Int) ≤ kids) = true := decide_eq_true k1
              by_cases m0 : mf < 0
              · have d5 : decide (mf < 0) = true := decide_eq_true m0
                by_cases k2 : kids ≤ 2048
                · have d6 : decide (kids ≤ 2048) = true := decide_eq_true k2
                  have HRV := Lib.hid (show R = true from by rw [HR2.out, d4, decide_eq_true (.inl ⟨m0, k2⟩)]; rfl)
                  go_wp2_with fail
                  go_quiet (first | (refine Calls.quiet_of_same (HL.out _)) | (refine Calls.quiet_of_same (HM.out _)))
                  go_wp2_with fail
                  go_ret
                  exact ⟨ret_bool (by rw [HRV.out]), below_drewN HB5.out nq⟩
                · have d6 : decide (kids ≤ 2048) = false := decide_eq_false k2
                  have d7 : decide (kids ≤ mf) = false := decide_eq_false (by omega)
                  have HRV := Lib.hid (show R = false from by rw [HR2.out, decide_eq_false (show ¬ (mf < 0 ∧ kids ≤ 2048 ∨ 0 ≤ mf ∧ kids ≤ mf) from by omega), Bool.and_false])
                  go_wp2_with fail
                  go_quiet (first | (refine Calls.quiet_of_same (HL.out _)) | (refine Calls.quiet_of_same (HM.out _)))
                  go_wp2_with fail
                  go_ret
                  exact ⟨ret_bool (by rw [HRV.out]), below_drewN HB5.out nq⟩
              · have d5 : decide (mf < 0) = false := decide_eq_false m0
                by_cases k2 : kids ≤ mf
                · have d6 : decide (kids ≤ mf) = true := decide_eq_true k2
                  have HRV := Lib.hid (show R = true from by rw [HR2.out, d4, decide_eq_true (show mf < 0 ∧ kids ≤ 2048 ∨ 0 ≤ mf ∧ kids ≤ mf from by omega)]; rfl)
                  go_wp2_with fail
                  go_quiet (first | (refine Calls.quiet_of_same (HL.out _)) | (refine Calls.quiet_of_same (HM.out _)))
                  go_wp2_with fail
                  go_ret
                  exact ⟨ret_bool (by rw [HRV.out]), below_drewN HB5.out nq⟩
                · have d6 : decide (kids ≤ mf) = false := decide_eq_false k2
                  have HRV := Lib.hid (show R = false from by rw [HR2.out, decide_eq_false (show ¬ (mf < 0 ∧ kids ≤ 2048 ∨ 0 ≤ mf ∧ kids ≤ mf) from by omega), Bool.and_false])
                  go_wp2_with fail
                  go_quiet (first | (refine Calls.quiet_of_same (HL.out _)) | (refine Calls.quiet_of_same (HM.out _)))
                  go_wp2_with fail
                  go_ret
                  exact ⟨ret_bool (by rw [HRV.out]), below_drewN HB5.out nq⟩
            · have d4 : decide ((lf : Int) ≤ kids) = false := decide_eq_false k1
              have HRV := Lib.hid (show R = false from by rw [HR2.out, d4]; rfl)
              go_wp2_with fail
              go_quiet (first | (refine Calls.quiet_of_same (HL.out _)) | (refine Calls.quiet_of_same (HM.out _)))
              go_wp2_with fail
              go_ret
              exact ⟨ret_bool (by rw [HRV.out]), below_drewN HB5.out nq⟩
          · cases v
            · clear t1 t2
              by_cases k1 : (lf : Int) ≤ kids
              · have d4 : decide ((lf : Int) ≤ kids) = true := decide_eq_true k1
                by_cases m0 : mf < 0
                · have d5 : decide (mf < 0) = true := decide_eq_true m0
                  by_cases k2 : kids ≤ 2048
                  · have d6 : decide (kids ≤ 2048) = true := decide_eq_true k2
                    have HRV := Lib.hid (show R = true from by rw [HR2.out, d4, decide_eq_true (.inl ⟨m0, k2⟩)]; rfl)
                    go_wp2_with fail
                    go_quiet (first | (refine Calls.quiet_of_same (HL.out _)) | (refine Calls.quiet_of_same (HM.out _)))
                    go_wp2_with fail
                    go_ret
                    exact ⟨ret_bool (by rw [HRV.out]), below_drewN HB5.out nq⟩
                  · have d6 : decide (kids ≤ 2048) = false := decide_eq_false k2
                    have d7 : decide (kids ≤ mf) = false := decide_eq_false (by omega)
                    have HRV := Lib.hid (show R = false from by rw [HR2.out, decide_eq_false (show ¬ (mf < 0 ∧ kids ≤ 2048 ∨ 0 ≤ mf ∧ kids ≤ mf) from by omega), Bool.and_false])
                    go_wp2_with fail
                    go_quiet (first | (refine Calls.quiet_of_same (HL.out _)) | (refine Calls.quiet_of_same (HM.out _)))
                    go_wp2_with fail
                    go_ret
                    exact ⟨ret_bool (by rw [HRV.out]), below_drewN HB5.out nq⟩
                · have d5 : decide (mf < 0) = false := decide_eq_false m0
                  by_cases k2 : kids ≤ mf
                  · have d6 : decide (kids ≤ mf) = true := decide_eq_true k2
                    have HRV := Lib.hid (show R = true from by rw [HR2.out, d4, decide_eq_true (show mf < 0 ∧ kids ≤ 2048 ∨ 0 ≤ mf ∧ kids ≤ mf from by omega)]; rfl)
                    go_wp2_with fail
                    go_quiet (first | (refine Calls.quiet_of_same (HL.out _)) | (refine Calls.quiet_of_same (HM.out _)))
                    go_wp2_with fail
                    go_ret
                    exact ⟨ret_bool (by rw [HRV.out]), below_drewN HB5.out nq⟩
                  · have d6 : decide (kids ≤ mf) = false := decide_eq_false k2
                    have HRV := Lib.hid (show R = false from by rw [HR2.out, decide_eq_false (show ¬ (mf < 0 ∧ kids ≤ 2048 ∨ 0 ≤ mf ∧ kids ≤ mf) from by omega), Bool.and_false])
                    go_wp2_with fail
                    go_quiet (first | (refine Calls.quiet_of_same (HL.out _)) | (refine Calls.quiet_of_same (HM.out _)))
                    go_wp2_with fail
                    go_ret
                    exact ⟨ret_bool (by rw [HRV.out]), below_drewN HB5.out nq⟩
              · have d4 : decide ((lf : Int) ≤ kids) = false := decide_eq_false k1
                have HRV := Lib.hid (show R = false from by rw [HR2.out, d4]; rfl)
                go_wp2_with fail
                go_quiet (first | (refine Calls.quiet_of_same (HL.out _)) | (refine Calls.quiet_of_same (HM.out _)))
                go_wp2_with fail
                go_ret
                exact ⟨ret_bool (by rw [HRV.out]), below_drewN HB5.out nq⟩
            · cases huv
end Go.Proofs.Ytpdofcjgpomehaa
