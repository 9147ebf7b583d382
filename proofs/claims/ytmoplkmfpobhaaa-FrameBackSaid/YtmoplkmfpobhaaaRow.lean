/- Contract of frame.row: the table of half bytes. -/
import Derived.Test.YtmoplkmfpobhaaaChecked
import Derived.Test.YtmoplkmfpobhaaaKit
import Derived.Test.YtmoplkmfpobhaaaCrc
import Derived.WalkKit
import Derived.WalkLawsBesides
import Derived.WalkSpells
import Derived.Laws.CopyOwn
import Derived.Laws.Tables
namespace Go.Proofs.Ytmoplkmfpobhaaa
open Go.RowKit

def rowK (k : Nat) : Array Value := ((List.range 16).map fun j => if j < k then Value.int .u32 (steps 4 j) else .int .u32 0).toArray
theorem rowK_get (k j : Nat) (h : j < 16) : (rowK k)[j]? = some (if j < k then Value.int .u32 (steps 4 j) else .int .u32 0) := by
  unfold rowK
  rw [List.getElem?_toArray, List.getElem?_map, List.getElem?_range h]; rfl
theorem rowK_size (k : Nat) : (rowK k).size = 16 := by simp [rowK]
theorem rowK_set (k : Nat) (h : k < 16) : (rowK k).setIfInBounds k (Value.int .u32 (steps 4 k)) = rowK (k + 1) := by
  apply Array.ext_getElem?
  intro j
  rw [Array.getElem?_setIfInBounds]
  by_cases hj : j < 16
  · by_cases he : k = j
    · subst he
      rw [if_pos rfl, if_pos (by rw [rowK_size]; exact hj), rowK_get _ _ hj, if_pos (by omega)]
    · rw [if_neg he, rowK_get _ _ hj, rowK_get _ _ hj]
      by_cases hl : j < k
      · rw [if_pos hl, if_pos (by omega)]
      · rw [if_neg hl, if_neg (by omega)]
  · rw [if_neg (by omega), Array.getElem?_eq_none (by rw [rowK_size]; omega), Array.getElem?_eq_none (by rw [rowK_size]; omega)]

theorem stepGo (c : Nat) (h : c < 4294967296) :
    bits BinOp.xor IntKind.u32 ((c : Int) / 2) (3988292384 * bits BinOp.and IntKind.u32 (c : Int) 1 % 4294967296) = (step c : Nat) := by
  have h1 : bits BinOp.and IntKind.u32 (c : Int) 1 = ((c % 2 : Nat) : Int) := by
    have := u32_and_nat c 1 h (by omega)
    rw [show ((1 : Nat) : Int) = 1 from rfl] at this
    rw [this, show (1 : Nat) = 2 ^ 1 - 1 from rfl, Nat.and_two_pow_sub_one_eq_mod]
  rw [h1]
  have hc : c % 2 = 0 ∨ c % 2 = 1 := by omega
  have h2 : (c : Int) / 2 = ((c / 2 : Nat) : Int) := by omega
  unfold step
  rcases hc with hc | hc
  · rw [hc, if_neg (by omega), h2]
    have := u32_xor_nat (c / 2) 0 (by omega) (by omega)
    rw [Nat.xor_zero] at this
    exact this
  · rw [hc, if_pos rfl, h2]
    exact u32_xor_nat (c / 2) 3988292384 (by omega) (by omega)

set_option maxHeartbeats 400000 in
theorem row_any (w : World) :
    Calls Try.prog 27 #[] w fun e w' => e = .returned (.agg (rowK 16)) ∧ Below w.heap.size w w' := by
  go_enter Try.func27, Try.ntmps27
  go_wp2
  go_loopw [4] (fun i wr => ∃ k : Nat, k ≤ 16 ∧ i = .int .i64 k ∧ Blk wr (w.heap.size + 1) 54 (rowK k) ∧ Blk wr w.heap.size 54 (rowK 0) ∧ Below w.heap.size w wr)
    (fun i _ => 16 - (intOf i).toNat)
  case atStart =>
    refine ⟨0, by omega, rfl, ?_, ?_, ?_⟩
    · exact heap_alloc2_new _ _ _
    · exact (Below.heap_alloc _ _ _ (by simp)).trans (heap_alloc_new _ _)
    · exact ((Below.refl _ _).alloc (Nat.le_refl _) _).alloc (by simp) _
  case round =>
    obtain ⟨k, hk, rfl, hb1, hb0, hbl⟩ := hrel
    by_cases hlt : k < 16
    · go_wp2
      go_loop [3, 9] (fun c i => ∃ j : Nat, j ≤ 4 ∧ i = .int .i64 j ∧ c = .int .u32 (steps j k)) (fun _ i => 4 - (intOf i).toNat)
      case atStart => exact ⟨0, by omega, rfl, rfl⟩
      case round =>
        obtain ⟨j, hj, rfl, rfl⟩ := hrel
        have hc : steps j k < 4294967296 := steps_lt j (by omega)
        have hs := stepGo (steps j k) hc
        have HS := Lib.hid (steps_succ j k)
        by_cases hlj : j < 4
        · go_wp2
          go_round
          case rel => exact ⟨j + 1, by omega, by go_num, by rw [HS.out]⟩
          case measure => simp [intOf]; omega
        · have hj4 : j = 4 := by omega
          subst hj4
          have hcell := hb1.cell k
          have hfr := hb1.frozen k
          rw [rowK_get k k (by omega), if_neg (by omega)] at hcell
          clear hs HS
          go_wp2
          go_roundw
          case rel => exact ⟨k + 1, by omega, by go_num, by
            rw [← rowK_set k hlt]; exact hb1.set_ k _, hb0.far (by simp) _, hbl.setCell (by simp) _⟩
          case measure => simp [intOf]; omega
    · have hk16 : k = 16 := by omega
      subst hk16
      go_wp2_with (first | (refine wpList_load_row rfl 54 _ rfl _ rfl 54 _ (0, 0) _ hb1 Try.underlying54 rfl (by kernel_rfl) ?_) | (refine wpList_store_row rfl 54 _ _ rfl w.heap.size (rowK 16) rfl rfl 54 _ hb0 (by kernel_rfl) (by kernel_rfl) (by kernel_rfl) ?_))
      refine bodyPost_ret (results_cell_row rfl _ _ w.heap.size 54 (rowK 16) (0, 0) _ rfl (setRow_heap wr w.heap.size (rowK 0) _ 54 _ hb0) Try.underlying54 rfl (by kernel_rfl)) rfl ⟨rfl, ?_⟩
      exact below_setRow hbl (Nat.le_refl _) _
end Go.Proofs.Ytmoplkmfpobhaaa
