/- Contracts of Twin, and of a server that nobody made. -/
import Derived.Test.YtjodglepaeomiaaSvd
namespace Go.Proofs.Ytjodglepaeomiaa
open Go.RowKit

/-- A server that nobody made: nil, or a zero one. -/
def Nobody (w : World) (p : Option Addr) : Prop := p = none ∨ ∃ b, p = some ⟨b, 0, none⟩ ∧ w.cell? ⟨b, 1, none⟩ = some (.int .i64 0) ∧ b < w.heap.size
theorem Nobody.below {w w' : World} {p : Option Addr} (h : Nobody w p) (hb : Below w.heap.size w w') : Nobody w' p := by
  rcases h with h | ⟨b, h1, h2, h3⟩
  · exact .inl h
  · exact .inr ⟨b, h1, (World.cell?_of_block (hb.block b h3)).trans h2, Nat.lt_of_lt_of_le h3 hb.size⟩
theorem Nobody.made {w : World} {p : Option Addr} (h : Nobody w p) : Calls Try.prog 35 #[.pointer p] w fun e w' => e = .returned (.bool false) ∧ w' = w := by
  rcases h with rfl | ⟨b, rfl, h2, _⟩
  · exact made_nil w
  · exact made_zero w b h2
set_option maxRecDepth 100000 in
theorem Nobody.tick {w : World} {p : Option Addr} (h : Nobody w p) : Calls Try.prog 9 #[.pointer p] w fun e w' => e = .returned (.slice none 0 0) ∧ Below w.heap.size w w' := by
  have HB0 : Hid (Below w.heap.size w (w.alloc (.cells #[.pointer p] 22))) := (Below.refl _ w).alloc (Nat.le_refl _) _
  have H := Lib.hid (h.below HB0.out)
  clear h
  go_enter Try.func9, Try.ntmps9
  have HB := Lib.hid (Blk.new w 22 #[.pointer p])
  have x0 : (w.alloc (.cells #[.pointer p] 22)).cell? ⟨w.heap.size, 0, none⟩ = some (.pointer p) := HB.out.cell 0
  go_wp2_with fail
  refine H.out.made.mono ?_
  rintro e w1 ⟨rfl, hw1⟩
  rw [hw1]
  clear hw1 w1
  go_wp2_with fail
  go_ret
  exact ⟨rfl, HB0.out⟩
set_option maxRecDepth 100000 in
theorem Nobody.handle {w : World} {p : Option Addr} (h : Nobody w p) (cs : Array Value) (hcs : cs.size = 9) (hc1 : cs.all (·.oneCell') = true) : Calls Try.prog 10 #[.pointer p, .agg cs] w fun e w' => e = .returned (.slice none 0 0) ∧ Below w.heap.size w w' := by
  have HB0 : Hid (Below w.heap.size w (w.alloc (.cells cs 34))) := (Below.refl _ w).alloc (Nat.le_refl _) _
  have H := Lib.hid (h.below HB0.out)
  clear h
  go_enter Try.func10, Try.ntmps10
  go_wp2_with fail
  refine H.out.made.mono ?_
  rintro e w1 ⟨rfl, hw1⟩
  rw [hw1]
  clear hw1 w1
  go_wp2_with fail
  go_ret
  exact ⟨rfl, HB0.out⟩
set_option maxRecDepth 100000 in
theorem Nobody.propose {w : World} {p : Option Addr} (h : Nobody w p) (d : ByteArray) : Calls Try.prog 14 #[.pointer p, .string d] w fun e w' => e = .returned (.tuple #[.int .i64 0, .int .i64 270]) ∧ w' = w := by
  have H := Lib.hid h
  clear h
  go_enter Try.func14, Try.ntmps14
  go_wp2_with fail
  refine H.out.made.mono ?_
  rintro e w1 ⟨rfl, hw1⟩
  rw [hw1]
  clear hw1 w1
  go_wp2_with fail
  go_ret2
  exact ⟨rfl, rfl⟩
theorem Nobody.saved {w : World} {p : Option Addr} (h : Nobody w p) : Calls Try.prog 31 #[.pointer p] w (SavedPost w 0 0 []) := by
  rcases h with rfl | ⟨b, rfl, h2, h3⟩
  · exact saved_none none w (fun b h => by cases h)
  · exact saved_none (some b) w (fun b' h => by injection h with h; subst h; exact ⟨h2, h3⟩)
theorem Nobody.log {w : World} {p : Option Addr} (h : Nobody w p) : Calls Try.prog 23 #[.pointer p] w (LogPost w []) := log_of p 0 0 [] w h.saved
set_option maxRecDepth 100000 in
theorem Nobody.twin {w : World} {p : Option Addr} (h : Nobody w p) : Calls Try.prog 28 #[.pointer p] w fun e w' => e = .returned (.pointer none) ∧ w' = w := by
  have H := Lib.hid h
  clear h
  go_enter Try.func28, Try.ntmps28
  go_wp2_with fail
  refine H.out.made.mono ?_
  rintro e w1 ⟨rfl, hw1⟩
  rw [hw1]
  clear hw1 w1
  go_wp2_with fail
  go_ret
  exact ⟨rfl, rfl⟩
/-- What Twin leaves. -/
def TwinPost (w : World) (S : Sv) (e : Ending) (w' : World) : Prop :=
  ∃ (g : Nat) (A : Option Addr) (c : Nat), e = .returned (.pointer (some ⟨g, 0, none⟩)) ∧ w.heap.size ≤ g ∧ (∀ a, A = some a → w.heap.size ≤ a.block) ∧ SvM w' g S A c ∧ Below w.heap.size w w'
set_option maxRecDepth 100000 in
set_option maxHeartbeats 8000000 in
theorem twin_any (S : Sv) (g : Nat) (A : Option Addr) (c : Nat) (w : World) (hS : SvM w g S A c) (hn : 0 < S.n) (hl : S.log.length ≤ 4096) :
    Calls Try.prog 28 #[.pointer (some ⟨g, 0, none⟩)] w (TwinPost w S) := by
  have HS := Lib.hid hS
  have HMD := Lib.hid (made_any w g S.n hS.c1 hn)
  have hA : A = none → c = 0 := fun h => by
    rcases hS.log.2 with ⟨h2, _⟩ | ⟨g', cap, cur, h2, _⟩
    · injection h2
    · rw [h] at h2; injection h2 with h2; cases h2
  have HCL : Hid (∀ W, Below w.heap.size w W → Calls Try.prog 34 #[.slice A S.log.length c] W (ClonePost W S.log)) := Lib.hid (fun W hW => clone_any A c S.log W (hS.below hW).rd (by omega) hA)
  obtain ⟨cs, hcs⟩ : ∃ z, z = (svCells S A c).toArray := ⟨_, rfl⟩
  have hcz : cs.size = 23 := by rw [hcs]; unfold svCells; simp [hS.nxl, hS.mtl]
  have hco : cs.all (·.oneCell') = true := by
    rw [hcs]; unfold svCells
    simp [Value.oneCell', icell]
  have HBK : Hid (w.heap[g]? = some (.cells cs 74 (0, 0))) := by rw [hcs]; exact Lib.hid hS.top
  have hgl := hS.lt
  have c4 := hS.c4
  obtain ⟨l, hll⟩ : ∃ l, l = S.log.length := ⟨_, rfl⟩
  have HLL := Lib.hid hll
  have HCS := Lib.hid hcs
  unfold ClonePost at HCL
  rw [← hll] at HCL hl c4
  clear hS hA hll hn hcs
  go_enter Try.func28, Try.ntmps28
  go_wp2_with fail
  refine HMD.out.mono ?_
  rintro e w1 ⟨rfl, hw1⟩
  rw [hw1]
  clear hw1 w1 HMD
  have HBN : Hid (Blk (w.alloc (.cells #[.int .i64 0, .int .i64 0, .int .i64 0, .int .i64 0, .slice none 0 0, .int .u8 0, .int .i64 0, .int .i64 0, .int .u64 0, .int .i64 0, .int .i64 0, .int .i64 0, .int .i64 0, .int .i64 0, .int .i64 0, .int .i64 0, .int .i64 0, .int .i64 0, .int .i64 0, .int .i64 0, .int .i64 0, .int .i64 0, .int .i64 0] 74)) w.heap.size 74 #[.int .i64 0, .int .i64 0, .int .i64 0, .int .i64 0, .slice none 0 0, .int .u8 0, .int .i64 0, .int .i64 0, .int .u64 0, .int .i64 0, .int .i64 0, .int .i64 0, .int .i64 0, .int .i64 0, .int .i64 0, .int .i64 0, .int .i64 0, .int .i64 0, .int .i64 0, .int .i64 0, .int .i64 0, .int .i64 0, .int .i64 0] ∧ (w.alloc (.cells #[.int .i64 0, .int .i64 0, .int .i64 0, .int .i64 0, .slice none 0 0, .int .u8 0, .int .i64 0, .int .i64 0, .int .u64 0, .int .i64 0, .int .i64 0, .int .i64 0, .int .i64 0, .int .i64 0, .int .i64 0, .int .i64 0, .int .i64 0, .int .i64 0, .int .i64 0, .int .i64 0, .int .i64 0, .int .i64 0, .int .i64 0] 74)).setRow w.heap.size cs = w.alloc (.cells cs 74)) := Lib.hid ⟨Blk.new _ _ _, World.setRow_alloc_new _ _ _ _⟩
  have HW0 : Hid (Blk (w.alloc (.cells cs 74)) w.heap.size 74 cs ∧ Below w.heap.size w (w.alloc (.cells cs 74))) := Lib.hid ⟨Blk.new _ _ _, (Below.refl _ w).alloc (Nat.le_refl _) _⟩
  have y4 : (w.alloc (.cells cs 74)).cell? ⟨g, 4, none⟩ = some (.slice A l c) := (World.cell?_of_block (HW0.out.2.block g hgl)).trans c4
  go_wp2_with (first | (refine wpList_load_row rfl 74 _ rfl g rfl 74 cs (0, 0) _ HBK.out Try.underlying74 rfl (by rw [hcz]; kernel_rfl) ?_) | (refine wpList_store_row rfl 74 (.tmp 3) (.tmp 9) rfl w.heap.size cs rfl rfl 74 #[.int .i64 0, .int .i64 0, .int .i64 0, .int .i64 0, .slice none 0 0, .int .u8 0, .int .i64 0, .int .i64 0, .int .u64 0, .int .i64 0, .int .i64 0, .int .i64 0, .int .i64 0, .int .i64 0, .int .i64 0, .int .i64 0, .int .i64 0, .int .i64 0, .int .i64 0, .int .i64 0, .int .i64 0, .int .i64 0, .int .i64 0] HBN.out.1 (by rw [hcz]; kernel_rfl) (by rw [hcz]; rfl) hco ?_; rw [HBN.out.2]; generalize w.alloc (.cells cs 74) = w0 at *) | fail)
  refine (HCL.out _ HW0.out.2).mono ?_
  rintro e w2 ⟨⟨A2, c2, rfl, ho2⟩, hb2⟩
  have hbk : Blk w2 w.heap.size 74 cs := HW0.out.1.below hb2 HW0.out.1.lt
  have z4 : w2.cell? ⟨w.heap.size, 4, none⟩ = some (.slice A l c) := by rw [hbk.cell 4, HCS.out, HLL.out]; rfl
  have f4 : w2.frozen? ⟨w.heap.size, 4, none⟩ = false := hbk.frozen 4
  have H2 := Lib.hid (And.intro ho2 (And.intro hb2 hbk))
  clear ho2 hb2 hbk
  go_wp2_with fail
  go_ret
  have hch : Chg (fun b => b = w.heap.size) w2 (w2.setCell ⟨w.heap.size, 4, none⟩ (.slice A2 l c2)) := Chg.setCell (T := fun b => b = w.heap.size) (Chg.refl _ _) (p := ⟨w.heap.size, 4, none⟩) rfl _
  have hs0 : w.heap.size < w0.heap.size := HW0.out.1.lt
  refine ⟨w.heap.size, A2, c2, rfl, Nat.le_refl _, fun a ha => by have := (World.ownsRow.lt H2.out.1 _ (own_block H2.out.1 a ha)).1; omega, ⟨?_, ?_, HS.out.nxl, HS.out.mtl⟩, ?_⟩
  · have h := H2.out.2.2.set_ 4 (.slice A2 l c2)
    rw [HCS.out, List.setIfInBounds_toArray, HLL.out] at h
    rw [HLL.out]
    exact h
  · have h := H2.out.1
    rw [HLL.out] at h hch
    rw [HLL.out]
    exact own_chg (own_at h (fun _ _ => Nat.zero_le _)) hch (fun g' hg' he => by have := (World.ownsRow.lt h g' hg').1; omega)
  · exact Chg.below (HW0.out.2.trans (H2.out.2.1.mono HW0.out.2.size)) hch (HW0.out.2.trans (H2.out.2.1.mono HW0.out.2.size)).size (fun k hk => Nat.le_of_eq hk.symm)
end Go.Proofs.Ytjodglepaeomiaa
