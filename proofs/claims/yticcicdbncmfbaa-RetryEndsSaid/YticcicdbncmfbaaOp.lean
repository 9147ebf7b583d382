/- What is told of a policy that came in. -/
import Derived.Test.YticcicdbncmfbaaDw
import Derived.Test.YticcicdbncmfbaaRows
import Derived.ProofKit
import Derived.OpenShut
import Derived.ShutString
import Derived.ChangeOld
import Derived.SizedLaws
namespace Go.Proofs.Yticcicdbncmfbaa
open Go.ChangeShapes Go.WideShapes Go.ChangeAt Go.RowKit

theorem cells24 : Try.prog.cellsOf 24 = 7 := by kernel_rfl
theorem cells2 : Try.prog.cellsOf 2 = 1 := by kernel_rfl
theorem cells3 : Try.prog.cellsOf 3 = 1 := by kernel_rfl
theorem cells22 : Try.prog.cellsOf 22 = 1 := by kernel_rfl
theorem bytes2 : Try.prog.bytesOf 2 = 8 := by kernel_rfl

theorem open_policy {H : Type} {enc : TypeId × Value → H} {W : World} {base : Nat} {v0 : Value} {d0 : DataW H} {p0 : List MemPlace} {ts : List TypeId} {ds : List (DataW H)}
    (hval : Value.okWide Try.prog W .any base 24 v0) (h0 : DataW.Trod enc Try.prog W 0 (fun _ => true) true 24 v0 d0 p0)
    (hsz : (DataW.weightsEach Try.prog (24 :: ts) (d0 :: ds)).all (· ≤ reachBytes) = true) :
    ∃ (F C N D M S : Int) (A : Option Addr) (L K : Nat) (l : List Int), v0 = .agg #[.int .i64 F, .int .i64 C, .int .i64 N, .int .i64 D, .int .i64 M, .int .i64 S, .slice A L K] ∧
      ((Lit.int .i64 F).wf = true ∧ (Lit.int .i64 C).wf = true ∧ (Lit.int .i64 N).wf = true ∧ (Lit.int .i64 D).wf = true ∧ (Lit.int .i64 M).wf = true ∧ (Lit.int .i64 S).wf = true) ∧
      (∀ z ∈ l, (Lit.int .i64 z).wf = true) ∧ InRow W A L K l := by
  obtain ⟨arr, rfl, harr⟩ := okWide_struct Try.underlying24 hval
  rw [cells24] at harr
  obtain ⟨cl⟩ := arr
  have hcl : cl.length = 7 := by simpa using harr
  obtain ⟨c0, c1, c2, c3, c4, c5, c6, rfl⟩ : ∃ c0 c1 c2 c3 c4 c5 c6, cl = [c0, c1, c2, c3, c4, c5, c6] := by
    match cl, hcl with
    | [c0, c1, c2, c3, c4, c5, c6], _ => exact ⟨c0, c1, c2, c3, c4, c5, c6, rfl⟩
  obtain ⟨fuel, hf⟩ := h0
  simp only [Value.cells] at hf
  obtain ⟨xs, n, rfl, hx, _, hxl, hall⟩ := DataW.trod_struct Try.underlying24 hf
  obtain ⟨x0, x1, x2, x3, x4, x5, x6, rfl⟩ : ∃ x0 x1 x2 x3 x4 x5 x6, xs = [x0, x1, x2, x3, x4, x5, x6] := by
    match xs, hxl with
    | [x0, x1, x2, x3, x4, x5, x6], _ => exact ⟨x0, x1, x2, x3, x4, x5, x6, rfl⟩
  have g0 := hall 0 { name := "First", type := 2, offset := 0, embedded := false, tag := "", pkgPath := "", byteOffset := 0 } rfl
  dsimp only at g0
  rw [cells2] at g0
  replace g0 : DataW.trod enc Try.prog W 0 (fun _ => true) true n 2 [c0] = some x0 := g0
  have g1 := hall 1 { name := "Cap", type := 2, offset := 1, embedded := false, tag := "", pkgPath := "", byteOffset := 8 } rfl
  dsimp only at g1
  rw [cells2] at g1
  replace g1 : DataW.trod enc Try.prog W 0 (fun _ => true) true n 2 [c1] = some x1 := g1
  have g2 := hall 2 { name := "Num", type := 3, offset := 2, embedded := false, tag := "", pkgPath := "", byteOffset := 16 } rfl
  dsimp only at g2
  rw [cells3] at g2
  replace g2 : DataW.trod enc Try.prog W 0 (fun _ => true) true n 3 [c2] = some x2 := g2
  have g3 := hall 3 { name := "Den", type := 3, offset := 3, embedded := false, tag := "", pkgPath := "", byteOffset := 24 } rfl
  dsimp only at g3
  rw [cells3] at g3
  replace g3 : DataW.trod enc Try.prog W 0 (fun _ => true) true n 3 [c3] = some x3 := g3
  have g4 := hall 4 { name := "Most", type := 3, offset := 4, embedded := false, tag := "", pkgPath := "", byteOffset := 32 } rfl
  dsimp only at g4
  rw [cells3] at g4
  replace g4 : DataW.trod enc Try.prog W 0 (fun _ => true) true n 3 [c4] = some x4 := g4
  have g5 := hall 5 { name := "Spread", type := 3, offset := 5, embedded := false, tag := "", pkgPath := "", byteOffset := 40 } rfl
  dsimp only at g5
  rw [cells3] at g5
  replace g5 : DataW.trod enc Try.prog W 0 (fun _ => true) true n 3 [c5] = some x5 := g5
  have g6 := hall 6 { name := "Fatal", type := 22, offset := 6, embedded := false, tag := "", pkgPath := "", byteOffset := 48 } rfl
  dsimp only at g6
  rw [cells22] at g6
  replace g6 : DataW.trod enc Try.prog W 0 (fun _ => true) true n 22 [c6] = some x6 := g6
  obtain ⟨F, e0, -, w0⟩ := DataW.trod_int Try.underlying2 g0
  obtain rfl : c0 = .int .i64 F := by simpa using e0
  obtain ⟨C, e1, -, w1⟩ := DataW.trod_int Try.underlying2 g1
  obtain rfl : c1 = .int .i64 C := by simpa using e1
  obtain ⟨N, e2, -, w2⟩ := DataW.trod_int Try.underlying3 g2
  obtain rfl : c2 = .int .i64 N := by simpa using e2
  obtain ⟨D, e3, -, w3⟩ := DataW.trod_int Try.underlying3 g3
  obtain rfl : c3 = .int .i64 D := by simpa using e3
  obtain ⟨M, e4, -, w4⟩ := DataW.trod_int Try.underlying3 g4
  obtain rfl : c4 = .int .i64 M := by simpa using e4
  obtain ⟨S, e5, -, w5⟩ := DataW.trod_int Try.underlying3 g5
  obtain rfl : c5 = .int .i64 S := by simpa using e5
  rcases open_ints Try.underlying22 Try.underlying2 cells2 g6 with ⟨hcs, _⟩ | ⟨x, l, c, zs, hcs, _, hl, hm, hz, hx6, hcell, hwz⟩
  · obtain rfl : c6 = .slice none 0 0 := by simpa using hcs
    exact ⟨F, C, N, D, M, S, none, 0, 0, [], rfl, ⟨w0, w1, w2, w3, w4, w5⟩, by simp, Reads.none_, rfl, Nat.le_refl _, by omega, by omega⟩
  · obtain rfl : c6 = .slice (some x) l c := by simpa using hcs
    have hzc : zs.length = c := by simpa using hz
    obtain ⟨rfl, rfl⟩ := Prod.mk.inj hx
    have hw := List.all_eq_true.1 hsz (((zs.take l).length + (zs.drop l).length) * Try.prog.bytesOf 2) (DataW.weights_mem_each (j := 0) (t := 24) rfl rfl _ (by
      simp only [DataW.weights, Try.underlying24]
      refine DataW.weights_mem_each (j := 6) (t := 22) (d := x6.1) rfl rfl _ ?_
      rw [hx6]
      simp only [DataW.weights, Try.underlying22]
      simp [lits]))
    rw [bytes2] at hw
    simp only [List.length_take, List.length_drop, reachBytes, decide_eq_true_eq] at hw
    unfold maxLen at hm
    refine ⟨F, C, N, D, M, S, some x, l, c, zs.take l, rfl, ⟨w0, w1, w2, w3, w4, w5⟩, fun z hz => hwz z (List.mem_of_mem_take hz), ?_, by rw [List.length_take]; omega, hl, by omega, by omega⟩
    refine ⟨by rw [icells_length, List.length_take]; omega, fun hn => ⟨x, rfl, ?_, fun j u hu => ?_⟩⟩
    · have h3 := cell_lt (hcell 0 (by omega))
      rw [block_of_add] at h3
      exact h3
    · have hj : j < l := by
        have h2 := (List.getElem?_eq_some_iff.1 hu).1
        rw [icells_length, List.length_take] at h2
        omega
      rw [hcell j (by omega)]
      unfold icells at hu
      rw [List.getElem?_map, List.getElem?_take_of_lt hj, List.getElem?_eq_getElem (by omega)] at hu
      rw [← hu, List.getD_eq_getElem?_getD, List.getElem?_eq_getElem (by omega)]
      rfl
end Go.Proofs.Yticcicdbncmfbaa
