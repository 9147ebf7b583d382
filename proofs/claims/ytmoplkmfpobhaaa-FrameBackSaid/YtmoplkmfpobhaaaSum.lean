/- Contract of frame.Sum: the sum of bytes. At most 70000 bytes. -/
import Derived.Test.YtmoplkmfpobhaaaRow
import Derived.Deep.WholeRow
namespace Go.Proofs.Ytmoplkmfpobhaaa
open Go.RowKit

theorem and15 (x : Nat) (h : x < 4294967296) : bits BinOp.and IntKind.u32 (x : Int) 15 = ((x % 16 : Nat) : Int) := by
  have := u32_and_nat x 15 h (by omega)
  rw [show ((15 : Nat) : Int) = 15 from rfl] at this
  rw [this, show (15 : Nat) = 2 ^ 4 - 1 from rfl, Nat.and_two_pow_sub_one_eq_mod]
theorem xorGo (a b : Nat) (h : a < 4294967296) (h2 : b < 4294967296) : bits BinOp.xor IntKind.u32 (a : Int) (b : Int) = ((a ^^^ b : Nat) : Int) := u32_xor_nat a b h h2
theorem xorShr (x t : Nat) (h : x < 4294967296) (h2 : t < 4294967296) : bits BinOp.xor IntKind.u32 ((x : Int) / 16) (t : Int) = ((x / 16 ^^^ t : Nat) : Int) := by
  rw [show (x : Int) / 16 = ((x / 16 : Nat) : Int) from by omega]
  exact u32_xor_nat (x / 16) t (by omega) h2

theorem notGo (c : Nat) (h : c < 4294967296) : bits BinOp.xor IntKind.u32 IntKind.u32.max (c : Int) = ((c ^^^ 4294967295 : Nat) : Int) := by
  have := u32_xor_nat 4294967295 c (by omega) h
  rw [Nat.xor_comm]
  exact this

/-- What one nibble's walk asks. -/
structure Nib (x d t y : Nat) : Prop where
  hd : bits BinOp.and IntKind.u32 (x : Int) 15 = (d : Int)
  hx : bits BinOp.xor IntKind.u32 ((x : Int) / 16) (t : Int) = (y : Int)
theorem nib_of (x : Nat) (h : x < 4294967296) : Nib x (x % 16) (steps 4 (x % 16)) (steps 4 x) :=
  ⟨and15 x h, by rw [xorShr x _ h (steps_lt 4 (by omega)), ← steps_nibble]⟩

set_option maxHeartbeats 400000 in
theorem sum_any (A : Option Addr) (n cap : Nat) (l : List UInt8) (w : World) (hl : l.length = n) (hn : n ≤ 70000) (hr : Reads w w.heap.size 1 A n (bcells l)) :
    Calls Try.prog 13 #[.slice A n cap] w fun e w' => e = .returned (.int .u32 (sumL l)) ∧ Below w.heap.size w w' := by
  have HL := Lib.hid hl
  have HR := Lib.hid hr
  clear hl hr
  go_enter Try.func13, Try.ntmps13
  go_wp2_with fail
  refine (row_any w).mono ?_
  rintro e w1 ⟨rfl, hb1⟩
  go_wp2_with (refine wpList_store_row rfl 54 _ _ rfl w1.heap.size (rowK 16) rfl rfl 54 _ (heap_alloc_new _ _) (by kernel_rfl) (by kernel_rfl) (by kernel_rfl) ?_; rw [World.setRow_alloc_new])
  have hW := Blk.new w1 54 (rowK 16)
  have hb2 : Below w.heap.size w (w1.alloc (.cells (rowK 16) 54)) := hb1.alloc hb1.size _
  have HR2 := Lib.hid (HR.out.below hb2)
  have HB := Lib.hid hb2
  have HW := Lib.hid hW
  clear HR hb1 hb2 hW
  go_loop [4, 10] (fun c i => ∃ k : Nat, k ≤ n ∧ i = .int .i64 k ∧ c = .int .u32 (sumR 4294967295 (l.take k))) (fun _ i => n - (intOf i).toNat)
  case atStart => exact ⟨0, by omega, rfl, rfl⟩
  case round =>
    obtain ⟨k, hk, rfl, rfl⟩ := hrel
    by_cases hlt : k < n
    · have hlk : k < l.length := by rw [HL.out]; exact hlt
      obtain ⟨b0, off, rfl, _, hcs⟩ := HR2.out.bytes (by omega)
      have hcell := hcs k hlk
      have HS := Lib.hid (sumR_take 4294967295 l k hlk)
      have hcl : sumR 4294967295 (l.take k) < 4294967296 := sumR_lt _ (by omega)
      have hb : l[k].toNat < 256 := UInt8.toNat_lt _
      generalize l[k].toNat = b at hcell HS hb
      generalize sumR 4294967295 (l.take k) = c at HS hcl
      clear hcs
      have hx : c ^^^ b < 4294967296 := Nat.xor_lt_two_pow (n := 32) (by omega) (by omega)
      have f1 := xorGo c b hcl (by omega)
      have HN := Lib.hid (nibbles c b)
      generalize c ^^^ b = x at f1 hx HN
      obtain ⟨f2, f3⟩ := nib_of x hx
      have hy : steps 4 x < 4294967296 := steps_lt 4 hx
      have hd : x % 16 < 16 := Nat.mod_lt _ (by omega)
      have ht := HW.out.cell (x % 16)
      rw [rowK_get 16 _ hd, if_pos hd] at ht
      generalize x % 16 = d at f2 f3 hd ht
      generalize steps 4 d = t at f3 ht
      generalize steps 4 x = y at f3 hy HN
      obtain ⟨f4, f5⟩ := nib_of y hy
      have hd2 : y % 16 < 16 := Nat.mod_lt _ (by omega)
      have ht2 := HW.out.cell (y % 16)
      rw [rowK_get 16 _ hd2, if_pos hd2] at ht2
      have HN2 := Lib.hid (steps_nibble y)
      generalize y % 16 = d2 at f4 f5 hd2 ht2 HN HN2
      generalize steps 4 d2 = t2 at f5 ht2 HN HN2
      generalize steps 4 y = z at f5 HN2
      go_wp2
      go_round
      case rel => exact ⟨k + 1, by omega, by go_num, by rw [HS.out, HN.out, ← HN2.out]⟩
      case measure => simp [intOf]; omega
    · have hkn : k = n := by omega
      have HE := Lib.hid (show l.take k = l by rw [hkn]; exact List.take_of_length_le (by rw [HL.out]; omega))
      have hcl : sumR 4294967295 (l.take k) < 4294967296 := sumR_lt _ (by omega)
      have HT := Lib.hid (show bits BinOp.xor IntKind.u32 IntKind.u32.max ((sumR 4294967295 (l.take n) : Nat) : Int) = ((sumL l : Nat) : Int) by
        rw [← hkn, HE.out, notGo _ (by rw [← HE.out]; exact hcl)]; rfl)
      go_wp2
      go_ret
      exact ⟨ret_int HT.out, HB.out⟩
end Go.Proofs.Ytmoplkmfpobhaaa
