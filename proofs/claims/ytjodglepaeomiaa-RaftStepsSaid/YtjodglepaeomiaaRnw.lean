/- Contracts of the document's May, New. -/
import Derived.Test.YtjodglepaeomiaaRri
namespace Go.Proofs.Ytjodglepaeomiaa
open Go.RowKit

set_option maxRecDepth 100000 in
set_option maxHeartbeats 2000000 in
theorem may_r (X : Option Addr) (c : Nat) (l : List Ent) (term vote nodes : Int) (w : World) (hrd : RdE w X l) (hlen : l.length ≤ 9223372036854775807) :
    Calls Try.prog 56 #[.agg #[.int .i64 term, .int .i64 vote, .slice X l.length c], .int .i64 nodes] w fun e w' => e = .returned (.bool (mayB term vote l nodes)) ∧ Below w.heap.size w w' := by
  have HB0 : Hid (Below w.heap.size w (w.alloc (.cells #[.int .i64 term, .int .i64 vote, .slice X l.length c] 29))) := (Below.refl _ w).alloc (Nat.le_refl _) _
  have HRI := Lib.hid (rising_r X c l 1 term _ (hrd.below HB0.out) hlen)
  obtain ⟨bb, hbb⟩ : ∃ b, b = mayB term vote l nodes := ⟨_, rfl⟩
  obtain ⟨rr, hrr⟩ : ∃ b, b = rises l 1 term := ⟨_, rfl⟩
  obtain ⟨n, hn⟩ : ∃ n, n = l.length := ⟨_, rfl⟩
  rw [← hbb]
  unfold mayB at hbb
  rw [← hn] at HRI hlen HB0 hbb ⊢
  rw [← hrr] at HRI hbb
  have HBAD := Lib.hid (show ¬ (0 ≤ term ∧ term ≤ 1152921504606846976 ∧ -1 ≤ vote ∧ vote < nodes ∧ n ≤ 4096) → false = bb from fun h => by rw [hbb, decide_eq_false h]; rfl)
  have HGOOD := Lib.hid (show (0 ≤ term ∧ term ≤ 1152921504606846976 ∧ -1 ≤ vote ∧ vote < nodes ∧ n ≤ 4096) → rr = bb from fun h => by rw [hbb, decide_eq_true h]; rfl)
  clear hbb hrr hn hrd
  go_enter Try.func56, Try.ntmps56
  go_wp2_with ((with_reducible refine HRI.out.mono ?_); rintro e w1 ⟨rfl, hb1⟩; have HB1 := Lib.hid (HB0.out.trans (hb1.mono HB0.out.size)); clear hb1)
  all_goals
    go_ret
    first
    | exact ⟨ret_bool (HGOOD.out (by omega)), HB1.out⟩
    | exact ⟨ret_bool (HBAD.out (by omega)), HB0.out⟩


def NewOkR (w : World) (id n t v : Int) (L : List Ent) (e : Ending) (w' : World) : Prop :=
  ∃ (g : Nat) (A : Option Addr) (c : Nat), e = .returned (.tuple #[.pointer (some ⟨g, 0, none⟩), .int .i64 0]) ∧ w.heap.size ≤ g ∧ (∀ a, A = some a → w.heap.size ≤ a.block) ∧ RvM w' g (Sv.begin_ id.toNat n.toNat t v L) A c (List.replicate 7 false) (List.replicate 7 (0, 0))
/-- What the document's New leaves. -/
def NewPostR (w : World) (id n t v : Int) (L : List Ent) (e : Ending) (w' : World) : Prop :=
  (if n < 1 ∨ 7 < n ∨ id < 0 ∨ n ≤ id then e = .returned (.tuple #[.pointer none, .int .i64 1])
    else if mayB t v L n = false then e = .returned (.tuple #[.pointer none, .int .i64 3])
    else NewOkR w id n t v L e w') ∧ Below w.heap.size w w'
set_option maxRecDepth 100000 in
set_option maxHeartbeats 8000000 in
theorem new_r (id n t v : Int) (L : List Ent) (A : Option Addr) (c : Nat) (w : World) (hrd : RdE w A L) (hlen : L.length ≤ 9223372036854775807) :
    Calls Try.prog 27 #[.int .i64 id, .int .i64 n, .agg #[.int .i64 t, .int .i64 v, .slice A L.length c]] w (NewPostR w id n t v L) := by
  have HB0 : Hid (Below w.heap.size w (w.alloc (.cells #[.int .i64 t, .int .i64 v, .slice A L.length c] 29)) ∧ Blk (w.alloc (.cells #[.int .i64 t, .int .i64 v, .slice A L.length c] 29)) w.heap.size 29 #[.int .i64 t, .int .i64 v, .slice A L.length c]) := ⟨(Below.refl _ w).alloc (Nat.le_refl _) _, Blk.new _ _ _⟩
  have HMY := Lib.hid (may_r A c L t v n _ (hrd.below HB0.out.1) hlen)
  have hsz : (w.alloc (.cells #[.int .i64 t, .int .i64 v, .slice A L.length c] 29)).heap.size = w.heap.size + 1 := by simp
  have HRD := Lib.hid hrd
  unfold NewPostR
  obtain ⟨mb, hmb⟩ : ∃ b, b = mayB t v L n := ⟨_, rfl⟩
  have HMB := Lib.hid hmb
  rw [← hmb] at HMY ⊢
  obtain ⟨l, hl⟩ : ∃ z, z = L.length := ⟨_, rfl⟩
  have HLL := Lib.hid hl
  rw [← hl] at HMY HB0 hlen hsz ⊢
  clear hl hmb hrd
  by_cases hbad : n < 1 ∨ 7 < n ∨ id < 0 ∨ n ≤ id
  · suffices h : Calls Try.prog 27 #[.int .i64 id, .int .i64 n, .agg #[.int .i64 t, .int .i64 v, .slice A l c]] w (fun e w' => e = .returned (.tuple #[.pointer none, .int .i64 1]) ∧ Below w.heap.size w w') from h.mono (fun e w' h => by rw [if_pos hbad]; exact h)
    have hq : (decide (n < 1) = true) ∨ (decide (n < 1) = false ∧ decide (7 < n) = true) ∨ (decide (n < 1) = false ∧ decide (7 < n) = false ∧ decide (id < 0) = true) ∨ (decide (n < 1) = false ∧ decide (7 < n) = false ∧ decide (id < 0) = false ∧ decide (n ≤ id) = true) := by
      simp only [decide_eq_true_eq, decide_eq_false_iff_not]; omega
    clear hbad
    go_enter Try.func27, Try.ntmps27
    rcases hq with h1 | ⟨h1, h2⟩ | ⟨h1, h2, h3⟩ | ⟨h1, h2, h3, h4⟩
    all_goals
      go_wp2_with fail
      go_ret2
      exact ⟨rfl, HB0.out.1⟩
  · suffices h : Calls Try.prog 27 #[.int .i64 id, .int .i64 n, .agg #[.int .i64 t, .int .i64 v, .slice A l c]] w (fun e w' => (if mb = false then e = .returned (.tuple #[.pointer none, .int .i64 3]) else NewOkR w id n t v L e w') ∧ Below w.heap.size w w') from h.mono (fun e w' h => by rw [if_neg hbad]; exact h)
    have HBD := Lib.hid (show ¬ (n < 1 ∨ 7 < n ∨ id < 0 ∨ n ≤ id) from hbad)
    have h1 : decide (n < 1) = false := decide_eq_false (by omega)
    have h2 : decide (7 < n) = false := decide_eq_false (by omega)
    have h3 : decide (id < 0) = false := decide_eq_false (by omega)
    have h4 : decide (n ≤ id) = false := decide_eq_false (by omega)
    clear hbad
    go_enter Try.func27, Try.ntmps27
    go_wp2_with (first | (refine wpList_load_row rfl 29 _ rfl w.heap.size rfl 29 #[.int .i64 t, .int .i64 v, .slice A l c] (0, 0) _ HB0.out.2 Try.underlying29 rfl (by kernel_rfl) ?_) | fail)
    refine HMY.out.mono ?_
    rintro e w1 ⟨rfl, hb1⟩
    have HB1 : Hid (Below w.heap.size w w1 ∧ Blk w1 w.heap.size 29 #[.int .i64 t, .int .i64 v, .slice A l c]) := Lib.hid ⟨HB0.out.1.trans (hb1.mono HB0.out.1.size), HB0.out.2.below hb1 HB0.out.2.lt⟩
    clear hb1 HMY
    cases mb
    · go_wp2_with fail
      go_ret2
      exact ⟨rfl, HB1.out.1⟩
    · have HT := Lib.hid (show ¬ (true = false) from by decide)
      have x2 : w1.cell? ⟨w.heap.size, 2, none⟩ = some (.slice A l c) := HB1.out.2.cell 2
      have HWA : Hid (Below w1.heap.size w1 (w1.alloc (.cells #[.int .i64 id, .int .i64 n, .int .i64 t, .int .i64 v, .slice A l c, .int .u8 0, .int .i64 (-1), .int .i64 0, .bool false, .bool false, .bool false, .bool false, .bool false, .bool false, .bool false, .int .i64 0, .int .i64 0, .int .i64 0, .int .i64 0, .int .i64 0, .int .i64 0, .int .i64 0, .int .i64 0, .int .i64 0, .int .i64 0, .int .i64 0, .int .i64 0, .int .i64 0, .int .i64 0] 101)) ∧ Blk (w1.alloc (.cells #[.int .i64 id, .int .i64 n, .int .i64 t, .int .i64 v, .slice A l c, .int .u8 0, .int .i64 (-1), .int .i64 0, .bool false, .bool false, .bool false, .bool false, .bool false, .bool false, .bool false, .int .i64 0, .int .i64 0, .int .i64 0, .int .i64 0, .int .i64 0, .int .i64 0, .int .i64 0, .int .i64 0, .int .i64 0, .int .i64 0, .int .i64 0, .int .i64 0, .int .i64 0, .int .i64 0] 101)) w1.heap.size 101 #[.int .i64 id, .int .i64 n, .int .i64 t, .int .i64 v, .slice A l c, .int .u8 0, .int .i64 (-1), .int .i64 0, .bool false, .bool false, .bool false, .bool false, .bool false, .bool false, .bool false, .int .i64 0, .int .i64 0, .int .i64 0, .int .i64 0, .int .i64 0, .int .i64 0, .int .i64 0, .int .i64 0, .int .i64 0, .int .i64 0, .int .i64 0, .int .i64 0, .int .i64 0, .int .i64 0]) := Lib.hid ⟨(Below.refl _ _).alloc (Nat.le_refl _) _, Blk.new _ _ _⟩
      have xa : (w1.alloc (.cells #[.int .i64 id, .int .i64 n, .int .i64 t, .int .i64 v, .slice A l c, .int .u8 0, .int .i64 (-1), .int .i64 0, .bool false, .bool false, .bool false, .bool false, .bool false, .bool false, .bool false, .int .i64 0, .int .i64 0, .int .i64 0, .int .i64 0, .int .i64 0, .int .i64 0, .int .i64 0, .int .i64 0, .int .i64 0, .int .i64 0, .int .i64 0, .int .i64 0, .int .i64 0, .int .i64 0] 101)).cell? ⟨w.heap.size, 2, none⟩ = some (.slice A l c) := (HB1.out.2.below HWA.out.1 HB1.out.2.lt).cell 2
      go_wp2_with (first | (refine wpList_load_row rfl 29 _ rfl w.heap.size rfl 29 #[.int .i64 t, .int .i64 v, .slice A l c] (0, 0) _ HB1.out.2 Try.underlying29 rfl (by kernel_rfl) ?_) | fail)
      generalize w1.alloc (.cells #[.int .i64 id, .int .i64 n, .int .i64 t, .int .i64 v, .slice A l c, .int .u8 0, .int .i64 (-1), .int .i64 0, .bool false, .bool false, .bool false, .bool false, .bool false, .bool false, .bool false, .int .i64 0, .int .i64 0, .int .i64 0, .int .i64 0, .int .i64 0, .int .i64 0, .int .i64 0, .int .i64 0, .int .i64 0, .int .i64 0, .int .i64 0, .int .i64 0, .int .i64 0, .int .i64 0] 101) = wa at *
      have HCL : Hid (Calls Try.prog 57 #[.slice A l c] wa (ClonePost wa L)) := by rw [HLL.out]; exact Lib.hid (copied_any A c L wa (HRD.out.below (HB1.out.1.trans (HWA.out.1.mono HB1.out.1.size))) (by have h := HMB.out.symm; unfold mayB at h; rw [Bool.and_eq_true, decide_eq_true_eq] at h; have := h.1.2.2.2.2; omega))
      refine HCL.out.mono ?_
      rintro e w2 ⟨⟨A2, c2, rfl, ho2⟩, hb2⟩
      rw [← HLL.out] at ho2 ⊢
      have hbk : Blk w2 w1.heap.size 101 #[.int .i64 id, .int .i64 n, .int .i64 t, .int .i64 v, .slice A l c, .int .u8 0, .int .i64 (-1), .int .i64 0, .bool false, .bool false, .bool false, .bool false, .bool false, .bool false, .bool false, .int .i64 0, .int .i64 0, .int .i64 0, .int .i64 0, .int .i64 0, .int .i64 0, .int .i64 0, .int .i64 0, .int .i64 0, .int .i64 0, .int .i64 0, .int .i64 0, .int .i64 0, .int .i64 0] := HWA.out.2.below hb2 HWA.out.2.lt
      have j4 : w2.cell? ⟨w1.heap.size, 4, none⟩ = some (.slice A l c) := hbk.cell 4
      have f4 : w2.frozen? ⟨w1.heap.size, 4, none⟩ = false := hbk.frozen 4
      have H2 : Hid (w2.ownsRow wa.heap.size 39 2 (.slice A2 l c2) l (rowOf ecell L) ∧ Below w1.heap.size w1 w2 ∧ Blk w2 w1.heap.size 101 #[.int .i64 id, .int .i64 n, .int .i64 t, .int .i64 v, .slice A l c, .int .u8 0, .int .i64 (-1), .int .i64 0, .bool false, .bool false, .bool false, .bool false, .bool false, .bool false, .bool false, .int .i64 0, .int .i64 0, .int .i64 0, .int .i64 0, .int .i64 0, .int .i64 0, .int .i64 0, .int .i64 0, .int .i64 0, .int .i64 0, .int .i64 0, .int .i64 0, .int .i64 0, .int .i64 0]) := Lib.hid ⟨ho2, HWA.out.1.trans (hb2.mono HWA.out.1.size), hbk⟩
      clear ho2 hb2 hbk
      go_wp2_with fail
      go_ret2
      have hBD := HBD.out
      have hid : ((id.toNat : Nat) : Int) = id := by omega
      have hn' : ((n.toNat : Nat) : Int) = n := by omega
      have hlt : w1.heap.size < wa.heap.size := HWA.out.2.lt
      have hch : Chg (fun b => b = w1.heap.size) w2 (w2.setCell ⟨w1.heap.size, 4, none⟩ (.slice A2 l c2)) := Chg.setCell (T := fun b => b = w1.heap.size) (Chg.refl _ _) (p := ⟨w1.heap.size, 4, none⟩) rfl _
      have ecs : (rvCells (Sv.begin_ id.toNat n.toNat t v L) A2 c2 (List.replicate 7 false) (List.replicate 7 (0, 0))).toArray = #[.int .i64 id, .int .i64 n, .int .i64 t, .int .i64 v, .slice A2 l c2, .int .u8 0, .int .i64 (-1), .int .i64 0, .bool false, .bool false, .bool false, .bool false, .bool false, .bool false, .bool false, .int .i64 0, .int .i64 0, .int .i64 0, .int .i64 0, .int .i64 0, .int .i64 0, .int .i64 0, .int .i64 0, .int .i64 0, .int .i64 0, .int .i64 0, .int .i64 0, .int .i64 0, .int .i64 0] := by
        unfold rvCells
        show (([.int .i64 ((id.toNat : Nat) : Int), .int .i64 ((n.toNat : Nat) : Int), .int .i64 t, .int .i64 v, .slice A2 L.length c2, .int .u8 0, .int .i64 (-1), .int .i64 0] ++ ((List.replicate 7 false).map Value.bool ++ rowOf pcell (List.replicate 7 (0, 0))) : List Value).toArray) = _
        rw [hid, hn', HLL.out]
        rfl
      refine ⟨⟨w1.heap.size, A2, c2, rfl, HB1.out.1.size, fun a ha => by have := (World.ownsRow.lt H2.out.1 _ (own_block H2.out.1 a ha)).1; have := HB1.out.1.size; omega, ⟨?_, ?_, rfl, rfl⟩⟩, Chg.below (HB1.out.1.trans (H2.out.2.1.mono HB1.out.1.size)) hch (HB1.out.1.trans (H2.out.2.1.mono HB1.out.1.size)).size (fun k hk => by rw [hk]; exact HB1.out.1.size)⟩
      · rw [ecs]
        exact H2.out.2.2.set_ 4 (.slice A2 l c2)
      · have h := H2.out.1
        rw [HLL.out] at h hch
        rw [HLL.out]
        exact own_chg (own_at h (fun _ _ => Nat.zero_le _)) hch (fun g' hg' he => by have := (World.ownsRow.lt h g' hg').1; omega)
end Go.Proofs.Ytjodglepaeomiaa
