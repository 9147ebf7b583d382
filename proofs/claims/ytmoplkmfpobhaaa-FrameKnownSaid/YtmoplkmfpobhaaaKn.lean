/- The walk of prompterlaw06.FrameKnown: it returns true. -/
import Derived.Test.YtmoplkmfpobhaaaAw
import Derived.Lib.SlBytesConst
import Derived.Laws.MakeOwn
namespace Go.Proofs.Ytmoplkmfpobhaaa
open Go.RowKit

def zrow (n : Nat) : Array Value := Array.replicate n (.int .u8 0)
def zbytes (n : Nat) : List UInt8 := List.replicate n 0
theorem zbytes_length (n : Nat) : (zbytes n).length = n := by unfold zbytes; exact List.length_replicate
theorem zbytes_cells (n : Nat) : bcells (zbytes n) = (zrow n).toList := by
  unfold bcells zbytes zrow
  rw [List.map_replicate, Array.toList_replicate]; rfl

theorem made_row (n : Nat) : madeCells (Value.int .u8 0).cells n = zrow n := by
  unfold zrow
  apply Array.ext
  · rw [size_madeCells, Array.size_replicate]
  · intro i h1 h2
    rw [Array.getElem_replicate]
    simp [madeCells, Value.cells, Nat.mod_one]

theorem make_row (N : Nat) (hN : N ≤ 1000000) (w : World) : (Instr.makeSlice 22 (.int .i64 (N : Int)) (.int .i64 (N : Int))).run Try.prog w = .ok (.slice (some ⟨w.heap.size, 0, none⟩) N N) (w.alloc (.cells (zrow N) 5)) := by
  obtain ⟨i0, hi, hz0, hz1, hz2⟩ := info_parts Try.info5
  have h1 : (i0.bytes : Int) * (N : Int) ≤ 281474976710656 := by rw [hz2]; omega
  have hr := run_make (P := Try.prog) w 22 5 i0 (.int .u8 0) Try.underlying22 hi hz0 .i64 .i64 (N : Int) (N : Int) (by omega) (by omega) h1 (by omega)
  simp only [Int.toNat_natCast] at hr
  rw [hr, hz1, Nat.mul_one, made_row]

theorem zreads (w : World) (N : Nat) : Reads (w.alloc (.cells (zrow N) 5)) (w.alloc (.cells (zrow N) 5)).heap.size 1 (some ⟨w.heap.size, 0, none⟩) N (bcells (zbytes N)) := by
  refine ⟨by rw [bcells_length, zbytes_length]; omega, fun _ => ⟨_, rfl, by simp, fun j u hu => ?_⟩⟩
  rw [zbytes_cells] at hu
  rw [addr_add, Nat.zero_add]
  exact (World.cell?_alloc_new w _ _ _).trans (by simpa using hu)

theorem feed_nil (v : Value) (w : World) : Calls Try.prog 20 #[.pointer none, v] w fun e w' => e = .returned (.tuple #[.slice none 0 0, .int .i64 1]) ∧ w = w' := by
  go_enter Try.func20, Try.ntmps20
  go_wp2_with fail
  go_ret2
  exact ⟨rfl, rfl⟩
theorem feed_zero (g : Nat) (v : Value) (w : World) (hc : w.cell? ⟨g, 0, none⟩ = some (.bool false)) : Calls Try.prog 20 #[.pointer (some ⟨g, 0, none⟩), v] w fun e w' => e = .returned (.tuple #[.slice none 0 0, .int .i64 1]) ∧ w = w' := by
  go_enter Try.func20, Try.ntmps20
  go_wp2_with fail
  go_ret2
  exact ⟨rfl, rfl⟩
theorem left_nil (w : World) : Calls Try.prog 21 #[.pointer none] w fun e w' => e = .returned (.int .i64 0) ∧ w = w' := by
  go_enter Try.func21, Try.ntmps21
  go_wp2_with fail
  go_ret
  exact ⟨rfl, rfl⟩
theorem left_zero (g : Nat) (w : World) (hc : w.cell? ⟨g, 1, none⟩ = some (.slice none 0 0)) : Calls Try.prog 21 #[.pointer (some ⟨g, 0, none⟩)] w fun e w' => e = .returned (.int .i64 0) ∧ w = w' := by
  go_enter Try.func21, Try.ntmps21
  go_wp2_with fail
  go_ret
  exact ⟨rfl, rfl⟩
theorem taken_nil (w : World) : Calls Try.prog 22 #[.pointer none] w fun e w' => e = .returned (.int .i64 0) ∧ w = w' := by
  go_enter Try.func22, Try.ntmps22
  go_wp2_with fail
  go_ret
  exact ⟨rfl, rfl⟩
theorem taken_zero (g : Nat) (w : World) (hc : w.cell? ⟨g, 2, none⟩ = some (.int .i64 0)) : Calls Try.prog 22 #[.pointer (some ⟨g, 0, none⟩)] w fun e w' => e = .returned (.int .i64 0) ∧ w = w' := by
  go_enter Try.func22, Try.ntmps22
  go_wp2_with fail
  go_ret
  exact ⟨rfl, rfl⟩
end Go.Proofs.Ytmoplkmfpobhaaa
