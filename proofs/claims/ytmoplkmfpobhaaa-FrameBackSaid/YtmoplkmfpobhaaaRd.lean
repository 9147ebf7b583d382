/- Contracts of frame.Read and prompterref06.Read. -/
import Derived.Test.YtmoplkmfpobhaaaLook
namespace Go.Proofs.Ytmoplkmfpobhaaa
open Go.RowKit

theorem lookL_ok {l : List UInt8} (h : (lookL l).2.2 = 0) : (lookL l).1 ≤ 65536 ∧ 8 + (lookL l).1 + 4 ≤ l.length := by
  unfold lookL at h ⊢
  split at h
  · simp at h
  · rename_i h1
    rw [if_neg h1]
    split at h
    · simp at h
    · rename_i h2
      rw [if_neg h2]
      split at h
      · simp at h
      · rename_i h3
        rw [if_neg h3]
        split at h
        · simp at h
        · rename_i h4
          rw [if_neg h4]
          split at h
          · simp at h
          · rename_i h5
            rw [if_neg h5]
            exact ⟨by omega, by omega⟩
theorem lookL_le (l : List UInt8) (h : l.length ≤ 100000) : (lookL l).1 ≤ 100000 ∧ (lookL l).2.1 ≤ 200000 ∧ (lookL l).2.2 ≤ 8 := by
  unfold lookL
  split
  · simp; omega
  · split
    · simp
    · split
      · simp
      · split
        · simp; omega
        · split
          · simp; omega
          · simp; omega

def bodyL (l : List UInt8) : List UInt8 := if (lookL l).2.2 = 0 then (l.take (8 + (lookL l).1)).drop 8 else []
def usedL (l : List UInt8) : Nat := if (lookL l).2.2 = 0 then 8 + (lookL l).1 + 4 else (lookL l).2.1

set_option maxHeartbeats 1000000 in
theorem read_any (A : Option Addr) (n cap : Nat) (l : List UInt8) (w : World) (hl : l.length = n) (hn : n ≤ 100000) (hc : n ≤ cap) (hr : Reads w w.heap.size 1 A n (bcells l)) :
    Calls Try.prog 15 #[.slice A n cap] w fun e w' => ∃ v, e = .returned (.tuple #[v, .int .i64 (usedL l), .int .i64 (lookL l).2.2]) ∧ NewRow w v (bodyL l) w' := by
  obtain ⟨i0, hi, hz0, hz1, hz2⟩ := info_parts Try.info5
  have HI := Lib.hid (And.intro hi (And.intro hz0 (And.intro hz1 hz2)))
  have HL := Lib.hid hl
  have HR := Lib.hid hr
  clear hr hl hi hz0 hz1 hz2
  have hle := lookL_le l (by rw [HL.out]; exact hn)
  have HLK := look_any A n cap l w HL.out hn hc HR.out
  have HOK := Lib.hid (lookL_ok (l := l))
  have HBD := Lib.hid (show bodyL l = if (lookL l).2.2 = 0 then (l.take (8 + (lookL l).1)).drop 8 else [] from rfl)
  have HUS := Lib.hid (show usedL l = if (lookL l).2.2 = 0 then 8 + (lookL l).1 + 4 else (lookL l).2.1 from rfl)
  generalize (lookL l).1 = size at hle HLK HOK HBD HUS
  generalize (lookL l).2.1 = at_ at hle HLK HUS
  generalize (lookL l).2.2 = er at hle HLK HOK HBD HUS ⊢
  have HLKH := Lib.hid HLK
  clear HLK
  go_enter Try.func15, Try.ntmps15
  go_wp2_with fail
  refine (HLKH.out).mono ?_
  rintro e w1 ⟨rfl, hb1⟩
  have HB1 := Lib.hid hb1
  clear hb1
  by_cases he : er = 0
  · subst he
    obtain ⟨hs1, hs2⟩ := HOK.out rfl
    rw [HL.out] at hs2
    have HB := Lib.hid (show bodyL l = (l.take (8 + size)).drop 8 by rw [HBD.out, if_pos rfl])
    have HU := Lib.hid (show usedL l = 8 + size + 4 by rw [HUS.out, if_pos rfl])
    clear HBD HUS HOK
    obtain ⟨b, off, rfl, -, -⟩ := HR.out.bytes (by omega)
    have HRm := Lib.hid ((HR.out.sub 8 (8 + size) (by omega) (by omega)).below HB1.out)
    have hc8 : ¬ cap = 8 := by omega
    obtain ⟨hi, hz0, hz1, hz2⟩ := HI.out
    have HRw := Lib.hid (HRm.out.alloc HB1.out.size (.cells #[] 5))
    have HOw : Hid ((w1.alloc (.cells #[] 5)).ownsRow w.heap.size 5 1 (.slice (some ⟨w1.heap.size, 0, none⟩) 0 0) 0 (bcells [])) :=
      ⟨rfl, .inr ⟨w1.heap.size, 0, #[], rfl, HB1.out.size, heap_alloc_new _ _, by omega, by unfold maxLen; omega, rfl, rfl⟩⟩
    go_wp2_with (at_builtin; refine wpList_append_any _ rfl (.tmp 17) (.tmp 21) 22 rfl w.heap.size 5 i0 (.int .u8 0) 1 1 Try.underlying22 hi hz0 hz1 hz2 rfl (by decide) (.slice (some ⟨w1.heap.size, 0, none⟩) 0 0) 0 (bcells []) rfl HOw.out w.heap.size _ (8 + size - 8) (cap - 8) (bcells ((l.take (8 + size)).drop 8)) rfl HRw.out (bcells_one _) (by unfold maxLen; omega) (by omega) (by have := HB1.out.size; simp; omega) ?_; intro v2 w2 ho2 hg2 hat2)
    have HO2 := Lib.hid ho2
    have HB2 := Lib.hid ((HB1.out.alloc HB1.out.size (.cells #[] 5)).grown hg2 (by have := HB1.out.size; simp; omega) (fun g hg => (World.ownsRow.lt HOw.out g hg).1))
    clear ho2 hg2 hat2 hi hz0 hz1 hz2
    go_ret3
    have hlen : (bodyL l).length = size := by rw [HB.out, List.length_drop, List.length_take, HL.out]; omega
    have ho := HO2.out
    rw [← bcells_append, List.nil_append, ← HB.out, show 0 + (8 + size - 8) = (bodyL l).length from by omega] at ho
    obtain ⟨A2, c2, rfl, _⟩ := own_form ho
    exact ⟨_, by rw [HU.out]; rfl, A2, c2, rfl, ho, HB2.out⟩
  · have HB := Lib.hid (show bodyL l = [] by rw [HBD.out, if_neg he])
    have HU := Lib.hid (show usedL l = at_ by rw [HUS.out, if_neg he])
    have hne : (((er : Int)) != 0) = true := by rw [bne_iff_ne]; omega
    clear HBD HUS HOK he
    go_wp2_with fail
    go_ret3
    refine ⟨_, by rw [HU.out]; rfl, none, 0, by rw [HB.out]; rfl, ?_, HB1.out⟩
    rw [HB.out]
    exact World.ownsRow_nil _ _ _ _
end Go.Proofs.Ytmoplkmfpobhaaa
