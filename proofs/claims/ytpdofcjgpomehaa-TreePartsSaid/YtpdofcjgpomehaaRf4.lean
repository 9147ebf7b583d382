/- The document's fine: one way through it. -/
import Derived.Deep.QuietTactic
import Derived.BigQuiet
import Derived.Test.YtpdofcjgpomehaaRfp
namespace Go.Proofs.Ytpdofcjgpomehaa
open Go.RowKit

set_option maxRecDepth 100000 in
set_option maxHeartbeats 8000000 in
theorem refFine_4 (x : Tw) (w : World) (hx : TwOk x) (heb0 : exprB x.op = false) (hsb0 : stmtB x.op = false) (h3 : ¬ (1 ≤ x.op ∧ x.op ≤ 3)) : Calls Try.prog 31 #[.agg (twCells x)] w fun e w' => e = .returned (.bool (fineB x (fun _ => true))) ∧ Below w.heap.size w w' := by
  rw [← fineR_eq]
  obtain ⟨op, kids, int, text⟩ := x
  obtain ⟨o1, o2, o3, o4, o5, o6⟩ := hx
  dsimp only at o1 o2 o3 o4 o5 o6 heb0 hsb0 h3
  have HBK := Lib.hid (Blk.new w 33 (twCells ⟨op, kids, int, text⟩))
  have HB0 := Lib.hid ((Below.refl w.heap.size w).alloc (Nat.le_refl _) (.cells (twCells ⟨op, kids, int, text⟩) 33))
  have HE := Lib.hid (fun W => refExpr_any op W o1)
  have HS := Lib.hid (fun W => refStmt_any op W o1)
  have HN := Lib.hid (fun W => named_any op W o1)
  have HO := Lib.hid (fun W => refOwn_any text W (by unfold maxLen at o6; omega))
  have HL := Lib.hid (fun W => least_any op W o1)
  have HM := Lib.hid (fun W => most_any op W o1)
  obtain ⟨R, hR⟩ : ∃ R, R = fineR ⟨op, kids, int, text⟩ := ⟨_, rfl⟩
  rw [← hR]
  unfold fineR at hR
  dsimp only at hR
  have HR := Lib.hid hR
  have o7 : text.size ≤ 9223372036854775807 := by unfold maxLen at o6; omega
  clear hR o6
  obtain ⟨lf, hlf⟩ : ∃ z, z = leastF op := ⟨_, rfl⟩
  have hlf2 : lf ≤ 2 := by rw [hlf]; exact leastF_le op
  obtain ⟨mf, hmf⟩ : ∃ z, z = mostF op := ⟨_, rfl⟩
  rw [← hlf] at HR HL
  rw [← hmf] at HR HM
  rw [heb0] at HR HE
  rw [hsb0] at HR HS
  obtain ⟨nb, hnb⟩ : ∃ z, z = namedB op := ⟨_, rfl⟩
  obtain ⟨ob, hob⟩ : ∃ z, z = (nameB text.toList && !kw text.toList) := ⟨_, rfl⟩
  rw [← hnb] at HR HN
  rw [← hob] at HR HO
  clear hlf hmf heb0 hsb0 hnb hob
  dsimp only [twCells] at HBK HB0 ⊢
  go_enter Try.func31, Try.ntmps31
  go_wp2_with fail
  generalize w.alloc (.cells #[.int .u8 (op : Nat), .int .i64 kids, .int .i64 int, .string text] 33) = w0 at *
  obtain ⟨bx, hbx⟩ : ∃ g, g = w.heap.size := ⟨_, rfl⟩
  rw [← hbx] at HBK ⊢
  clear hbx
  have HX : Hid (Blk w0 bx 33 #[.int .u8 (op : Nat), .int .i64 kids, .int .i64 int, .string text]) := HBK.out
  have y0 : w0.cell? ⟨bx, 0, none⟩ = some (.int .u8 (op : Nat)) := HX.out.cell 0
  have y1 : w0.cell? ⟨bx, 1, none⟩ = some (.int .i64 kids) := HX.out.cell 1
  have y2 : w0.cell? ⟨bx, 2, none⟩ = some (.int .i64 int) := HX.out.cell 2
  have y3 : w0.cell? ⟨bx, 3, none⟩ = some (.string text) := HX.out.cell 3
  have HRF := Lib.hid (show R = false from by rw [HR.out, decide_eq_false h3]; rfl)
  go_wp2_with fail
  refine (HE.out w0).mono ?_
  rintro e w9 ⟨rfl, hw9⟩
  rw [hw9]
  clear hw9 w9
  go_wp2_with fail
  refine (HS.out w0).mono ?_
  rintro e w9 ⟨rfl, hw9⟩
  rw [hw9]
  clear hw9 w9
  by_cases h31 : op < 1
  · have d31 : decide ((op : Int) < 1) = true := decide_eq_true (by omega)
    clear h3
    go_wp2_with fail
    go_ret
    exact ⟨ret_bool (by rw [HRF.out]), HB0.out⟩
  · have d31 : decide ((op : Int) < 1) = false := decide_eq_false (by omega)
    have d32 : decide ((3 : Int) < (op : Int)) = true := decide_eq_true (by omega)
    clear h3
    go_wp2_with fail
    go_ret
    exact ⟨ret_bool (by rw [HRF.out]), HB0.out⟩
end Go.Proofs.Ytpdofcjgpomehaa
