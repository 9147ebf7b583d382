/- The walk of prompterlaw06.FrameKnown: it returns true. -/
import Derived.Test.YtmoplkmfpobhaaaKn
namespace Go.Proofs.Ytmoplkmfpobhaaa
open Go.RowKit

theorem creads (w : World) (l : List UInt8) (cs : Array Value) (r : Nat × Nat) (h : bcells l = cs.toList) :
    Reads (w.alloc (.cells cs 5 r)) (w.alloc (.cells cs 5 r)).heap.size 1 (some ⟨w.heap.size, 0, none⟩) l.length (bcells l) := by
  refine ⟨by rw [bcells_length]; omega, fun _ => ⟨_, rfl, by simp, fun j u hu => ?_⟩⟩
  rw [h] at hu
  rw [addr_add, Nat.zero_add]
  exact (cell_of_row _ _ _ cs 5 r (heap_alloc_new w _)).trans (by simpa using hu)

theorem fr_0 : frameL [] = [0, 0, 0, 0, 28, 223, 68, 33, 0, 0, 0, 0] := by decide +kernel
theorem lk_z : lookL (zbytes 12) = (0, 4, 8) := by decide +kernel
theorem sum_9 : sumL [49, 50, 51, 52, 53, 54, 55, 56, 57] = 3421780262 := by decide +kernel
theorem us_z : usedL (zbytes 12) = 4 := by unfold usedL; rw [lk_z]; rfl

theorem new_at (w : World) (cs : Array Value) (t : TypeId) (i : Nat) (v : Value) (h : cs[i]? = some v) : (w.alloc (.cells cs t)).cell? ⟨w.heap.size, i, none⟩ = some v :=
  (World.cell?_alloc_new w cs t i).trans h
theorem zreads2 (w : World) (o : Obj) (N : Nat) :
    Reads ((w.alloc o).alloc (.cells (zrow N) 5)) ((w.alloc o).alloc (.cells (zrow N) 5)).heap.size 1 (some ⟨w.heap.size + 1, 0, none⟩) N (bcells (zbytes N)) := by
  have h := zreads (w.alloc o) N
  rw [show (w.alloc o).heap.size = w.heap.size + 1 from by simp] at h
  exact h
theorem two_alloc {B : Nat} {a w w' : World} (o o' : Obj) (h : Below B a w) (hB : B ≤ w.heap.size) (h' : Below ((w.alloc o).alloc o').heap.size ((w.alloc o).alloc o') w') : Below B a w' :=
  ((h.alloc hB _).alloc (Nat.le_trans hB (by simp)) _).trans (h'.mono (Nat.le_trans hB (by simp; omega)))
theorem one_alloc {B : Nat} {a w w' : World} (o : Obj) (h : Below B a w) (hB : B ≤ w.heap.size) (h' : Below (w.alloc o).heap.size (w.alloc o) w') : Below B a w' :=
  (h.alloc hB _).trans (h'.mono (Nat.le_trans hB (by simp)))
attribute [local irreducible] zrow zbytes frameL

set_option maxHeartbeats 400000 in
set_option maxRecDepth 100000 in
theorem known_walk (w : World) : Calls Try.prog 6 #[] w fun e w' => e = .returned (.bool true) ∧ Below w.heap.size w w' := by
  go_enter Try.func6, Try.ntmps6
  go_wp2_with fail
  refine (frame_ok none 0 0 [] w rfl (by omega) Reads.none_).mono ?_
  rintro e w1 ⟨v, rfl, A1, c1, rfl, ho1, hb1⟩
  rw [fr_0] at ho1 ⊢
  rw [show ([0, 0, 0, 0, 28, 223, 68, 33, 0, 0, 0, 0] : List UInt8).length = 12 from rfl] at ho1 ⊢
  have HO1 := Lib.hid ho1
  have HB1 := Lib.hid hb1
  clear ho1 hb1
  have kc := fun (w : World) => Lib.run_convert_bytes_const (P := Try.prog) w 22 5 #[.int .u8 97] 1 1 Try.underlying22 Try.underlying5
  go_wp2_with fail
  have hR : Reads (w1.alloc (.cells #[.int .u8 97] 5 (1, 2))) (w1.alloc (.cells #[.int .u8 97] 5 (1, 2))).heap.size 1 (some ⟨w1.heap.size, 0, none⟩) 1 (bcells [97]) := creads w1 [97] _ _ rfl
  refine (frame_ok _ 1 1 [97] _ rfl (by omega) hR).mono ?_
  rintro e w2 ⟨v, rfl, A2, c2, rfl, ho2, hb2⟩
  rw [fr_a] at ho2 ⊢
  rw [show ([1, 0, 0, 0, 121, 184, 248, 153, 97, 67, 190, 183, 232] : List UInt8).length = 13 from rfl] at ho2 ⊢
  have HO2 := Lib.hid ho2
  have HS2 := Lib.hid (show Below w1.heap.size w1 w2 from ((Below.refl _ _).alloc (Nat.le_refl _) _).trans (hb2.mono (by simp)))
  have HB2 := Lib.hid (HB1.out.trans (HS2.out.mono HB1.out.size))
  clear ho2 hb2 hR kc
  have m1 : ∀ W, (Instr.makeSlice 22 (.int .i64 65536) (.int .i64 65536)).run Try.prog W = .ok (.slice (some ⟨W.heap.size, 0, none⟩) 65536 65536) (W.alloc (.cells (zrow 65536) 5)) := fun W => make_row 65536 (by omega) W
  have m2 : ∀ W, (Instr.makeSlice 22 (.int .i64 65537) (.int .i64 65537)).run Try.prog W = .ok (.slice (some ⟨W.heap.size, 0, none⟩) 65537 65537) (W.alloc (.cells (zrow 65537) 5)) := fun W => make_row 65537 (by omega) W
  have m3 : ∀ W, (Instr.makeSlice 22 (.int .i64 12) (.int .i64 12)).run Try.prog W = .ok (.slice (some ⟨W.heap.size, 0, none⟩) 12 12) (W.alloc (.cells (zrow 12) 5)) := fun W => make_row 12 (by omega) W
  go_wp2_with fail
  have hR3 : Reads (w2.alloc (.cells (zrow 65536) 5)) (w2.alloc (.cells (zrow 65536) 5)).heap.size 1 (some ⟨w2.heap.size, 0, none⟩) 65536 (bcells (zbytes 65536)) := zreads w2 65536
  refine (frame_ok _ 65536 65536 (zbytes 65536) _ (zbytes_length 65536) (by omega) hR3).mono ?_
  rintro e w3 ⟨v, rfl, A3, c3, rfl, ho3, hb3⟩
  rw [show (frameL (zbytes 65536)).length = 65548 by rw [frameL_length, zbytes_length]]
  have HS3 := Lib.hid (show Below w2.heap.size w2 w3 from ((Below.refl _ _).alloc (Nat.le_refl _) _).trans (hb3.mono (by simp)))
  clear hb3 hR3 ho3
  go_wp2_with fail
  refine (frame_long _ 65537 65537 _ (by omega) (by omega)).mono ?_
  rintro e w' ⟨rfl, rfl⟩
  go_wp2_with fail
  have hR4 := zreads2 w3 (.cells (zrow 65537) 5) 12
  refine (read_any _ 12 12 (zbytes 12) _ (zbytes_length 12) (by omega) (by omega) hR4).mono ?_
  rintro e w4 ⟨v, rfl, A4, c4, rfl, ho4, hb4⟩
  rw [us_z, lk_z]
  have HS4 := Lib.hid (two_alloc _ _ HS3.out HS3.out.size hb4)
  clear hb4 hR4 ho4 m1 m2 m3
  go_wp2_with fail
  refine (feed_nil _ _).mono ?_
  rintro e w' ⟨rfl, rfl⟩
  go_wp2_with fail
  refine (feed_zero _ _ _ (new_at _ _ _ _ _ rfl)).mono ?_
  rintro e w' ⟨rfl, rfl⟩
  go_wp2_with fail
  refine (left_nil _).mono ?_
  rintro e w' ⟨rfl, rfl⟩
  go_wp2_with fail
  refine (taken_zero _ _ (new_at _ _ _ _ _ rfl)).mono ?_
  rintro e w' ⟨rfl, rfl⟩
  go_wp2_with fail
  refine (taken_nil _).mono ?_
  rintro e w' ⟨rfl, rfl⟩
  go_wp2_with fail
  refine (left_zero _ _ (new_at _ _ _ _ _ rfl)).mono ?_
  rintro e w' ⟨rfl, rfl⟩
  go_wp2_with fail
  refine (awake_any _).mono ?_
  rintro e w5 ⟨rfl, hb5⟩
  have HS5 := Lib.hid (one_alloc _ HS4.out HS4.out.size hb5)
  clear hb5
  have hc1 := run_str_own (P := Try.prog) w5 22 9 5 _ _ _ [0, 0, 0, 0, 28, 223, 68, 33, 0, 0, 0, 0] Try.underlying22 Try.underlying5 Try.underlying9 rfl (own_below HO1.out (HS2.out.trans (HS5.out.mono HS2.out.size)))
  have hc2 := run_str_own (P := Try.prog) w5 22 9 5 _ _ _ [1, 0, 0, 0, 121, 184, 248, 153, 97, 67, 190, 183, 232] Try.underlying22 Try.underlying5 Try.underlying9 rfl (own_below HO2.out HS5.out)
  have kc := fun (w : World) => Lib.run_convert_bytes_const (P := Try.prog) w 22 5 #[.int .u8 49, .int .u8 50, .int .u8 51, .int .u8 52, .int .u8 53, .int .u8 54, .int .u8 55, .int .u8 56, .int .u8 57] 9 9 Try.underlying22 Try.underlying5
  go_wp2_with fail
  have hR9 : Reads (w5.alloc (.cells #[.int .u8 49, .int .u8 50, .int .u8 51, .int .u8 52, .int .u8 53, .int .u8 54, .int .u8 55, .int .u8 56, .int .u8 57] 5 (9, 10))) (w5.alloc (.cells #[.int .u8 49, .int .u8 50, .int .u8 51, .int .u8 52, .int .u8 53, .int .u8 54, .int .u8 55, .int .u8 56, .int .u8 57] 5 (9, 10))).heap.size 1 (some ⟨w5.heap.size, 0, none⟩) 9 (bcells [49, 50, 51, 52, 53, 54, 55, 56, 57]) := creads w5 [49, 50, 51, 52, 53, 54, 55, 56, 57] _ _ rfl
  refine (sum_any _ 9 9 [49, 50, 51, 52, 53, 54, 55, 56, 57] _ rfl (by omega) hR9).mono ?_
  rintro e w6 ⟨rfl, hb6⟩
  rw [sum_9]
  have HS6 := Lib.hid (one_alloc _ HS5.out HS5.out.size hb6)
  clear hb6 hR9 kc
  go_wp2_with fail
  go_ret
  exact ⟨rfl, HB2.out.trans (HS6.out.mono HB2.out.size)⟩
end Go.Proofs.Ytmoplkmfpobhaaa
