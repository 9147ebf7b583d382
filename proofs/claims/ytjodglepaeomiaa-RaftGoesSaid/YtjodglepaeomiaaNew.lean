/- Contract of New. -/
import Derived.Test.YtjodglepaeomiaaPrp
namespace Go.Proofs.Ytjodglepaeomiaa
open Go.RowKit

def NewOk (w : World) (id n t v : Int) (L : List Ent) (e : Ending) (w' : World) : Prop :=
  ∃ (g : Nat) (A : Option Addr) (c : Nat), e = .returned (.tuple #[.pointer (some ⟨g, 0, none⟩), .int .i64 0]) ∧ w.heap.size ≤ g ∧ (∀ a, A = some a → w.heap.size ≤ a.block) ∧ SvM w' g (Sv.begin_ id.toNat n.toNat t v L) A c
/-- What New leaves. -/
def NewPost (w : World) (id n t v : Int) (L : List Ent) (e : Ending) (w' : World) : Prop :=
  (if n < 1 ∨ 7 < n ∨ id < 0 ∨ n ≤ id then e = .returned (.tuple #[.pointer none, .int .i64 1])
    else if mayB t v L n = false then e = .returned (.tuple #[.pointer none, .int .i64 3])
    else NewOk w id n t v L e w') ∧ Below w.heap.size w w'
theorem begin_ok {id n t v : Int} {L : List Ent} (h1 : ¬ (n < 1 ∨ 7 < n ∨ id < 0 ∨ n ≤ id)) (h2 : mayB t v L n = true) : (Sv.begin_ id.toNat n.toNat t v L).Ok := by
  unfold mayB at h2
  rw [Bool.and_eq_true, decide_eq_true_eq] at h2
  obtain ⟨⟨a1, a2, a3, a4, a5⟩, a6⟩ := h2
  have hr : ∀ k, (List.replicate 7 0).getD k 0 = 0 := fun k => by
    rw [List.getD_eq_getElem?_getD, List.getElem?_replicate]
    split <;> rfl
  exact ⟨by show id.toNat < n.toNat; omega, by show n.toNat ≤ 7; omega, a1, a2, a3, by show v < ((n.toNat : Nat) : Int); omega, a5, a6, Nat.zero_le _, by show (-1 : Int) ≤ -1; omega, by show (-1 : Int) < 7; omega, Nat.zero_le _, by show 0 < 128; omega, rfl, rfl,
    fun k => by show (List.replicate 7 0).getD k 0 ≤ 4097; rw [hr]; omega, fun k => by show (List.replicate 7 0).getD k 0 ≤ 4096; rw [hr]; omega, fun h => absurd (show (0 : Nat) = 2 from h) (by decide), fun h => absurd (show (0 : Nat) = 2 from h) (by decide), fun h => absurd (show (0 : Nat) = 2 from h) (by decide)⟩
set_option maxRecDepth 100000 in
set_option maxHeartbeats 8000000 in
theorem new_any (id n t v : Int) (L : List Ent) (A : Option Addr) (c : Nat) (w : World) (hrd : RdE w A L) (hlen : L.length ≤ 9223372036854775807) (hA : A = none → c = 0) :
    Calls Try.prog 8 #[.int .i64 id, .int .i64 n, .agg #[.int .i64 t, .int .i64 v, .slice A L.length c]] w (NewPost w id n t v L) := by
  have HB0 : Hid (Below w.heap.size w (w.alloc (.cells #[.int .i64 t, .int .i64 v, .slice A L.length c] 29)) ∧ Blk (w.alloc (.cells #[.int .i64 t, .int .i64 v, .slice A L.length c] 29)) w.heap.size 29 #[.int .i64 t, .int .i64 v, .slice A L.length c]) := ⟨(Below.refl _ w).alloc (Nat.le_refl _) _, Blk.new _ _ _⟩
  have HMY := Lib.hid (may_any A c L t v n _ (hrd.below HB0.out.1) hlen)
  have hsz : (w.alloc (.cells #[.int .i64 t, .int .i64 v, .slice A L.length c] 29)).heap.size = w.heap.size + 1 := by simp
  have HRD := Lib.hid (And.intro hrd hA)
  unfold NewPost
  obtain ⟨mb, hmb⟩ : ∃ b, b = mayB t v L n := ⟨_, rfl⟩
  have HMB := Lib.hid hmb
  rw [← hmb] at HMY ⊢
  obtain ⟨l, hl⟩ : ∃ z, z = L.length := ⟨_, rfl⟩
  have HLL := Lib.hid hl
  rw [← hl] at HMY HB0 hlen hsz ⊢
  clear hl hmb hrd hA
  by_cases hbad : n < 1 ∨ 7 < n ∨ id < 0 ∨ n ≤ id
  · suffices h : Calls Try.prog 8 #[.int .i64 id, .int .i64 n, .agg #[.int .i64 t, .int .i64 v, .slice A l c]] w (fun e w' => e = .returned (.tuple #[.pointer none, .int .i64 1]) ∧ Below w.heap.size w w') from h.mono (fun e w' h => by rw [if_pos hbad]; exact h)
    have hq : (decide (n < 1) = true) ∨ (decide (n < 1) = false ∧ decide (7 < n) = true) ∨ (decide (n < 1) = false ∧ decide (7 < n) = false ∧ decide (id < 0) = true) ∨ (decide (n < 1) = false ∧ decide (7 < n) = false ∧ decide (id < 0) = false ∧ decide (n ≤ id) = true) := by
      simp only [decide_eq_true_eq, decide_eq_false_iff_not]; omega
    clear hbad
    go_enter Try.func8, Try.ntmps8
    rcases hq with h1 | ⟨h1, h2⟩ | ⟨h1, h2, h3⟩ | ⟨h1, h2, h3, h4⟩
    all_goals
      go_wp2_with fail
      go_ret2
      exact ⟨rfl, HB0.out.1⟩
  · suffices h : Calls Try.prog 8 #[.int .i64 id, .int .i64 n, .agg #[.int .i64 t, .int .i64 v, .slice A l c]] w (fun e w' => (if mb = false then e = .returned (.tuple #[.pointer none, .int .i64 3]) else NewOk w id n t v L e w') ∧ Below w.heap.size w w') from h.mono (fun e w' h => by rw [if_neg hbad]; exact h)
    have HBD := Lib.hid (show ¬ (n < 1 ∨ 7 < n ∨ id < 0 ∨ n ≤ id) from hbad)
    have h1 : decide (n < 1) = false := decide_eq_false (by omega)
    have h2 : decide (7 < n) = false := decide_eq_false (by omega)
    have h3 : decide (id < 0) = false := decide_eq_false (by omega)
    have h4 : decide (n ≤ id) = false := decide_eq_false (by omega)
    clear hbad
    go_enter Try.func8, Try.ntmps8
    go_wp2_with (first | (refine wpList_load_row rfl 29 _ rfl w.heap.size rfl 29 #[.int .i64 t, .int .i64 v, .slice A l c] (0, 0) _ HB0.out.2 Try.underlying29 rfl (by kernel_rfl) ?_) | fail)
    refine HMY.out.mono ?_
    rintro e w1 ⟨rfl, hb1⟩
    have HB1 : Hid (Below w.heap.size w w1 ∧ Blk w1 w.heap.size 29 #[.int .i64 t, .int .i64 v, .slice A l c]) := Lib.hid ⟨HB0.out.1.trans (hb1.mono HB0.out.1.size), HB0.out.2.below hb1 HB0.out.2.lt⟩
    clear hb1 HMY
    cases mb
    · go_wp2_with fail
      go_ret2
      exact ⟨rfl, HB1.out.1⟩
    · have HT := Lib.hid (show ¬ (true = false) from by decide)
      have x2 : w1.cell? ⟨w.heap.size, 2, none⟩ = some (.slice A l c) := HB1.out.2.cell 2
      have HCL : Hid (Calls Try.prog 34 #[.slice A l c] w1 (ClonePost w1 L)) := by rw [HLL.out]; exact Lib.hid (clone_any A c L w1 (HRD.out.1.below HB1.out.1) (by have h := HMB.out.symm; unfold mayB at h; rw [Bool.and_eq_true, decide_eq_true_eq] at h; have := h.1.2.2.2.2; omega) HRD.out.2)
      go_wp2_with fail
      refine HCL.out.mono ?_
      rintro e w2 ⟨⟨A2, c2, rfl, ho2⟩, hb2⟩
      rw [← HLL.out] at ho2 ⊢
      have hbk : Blk w2 w.heap.size 29 #[.int .i64 t, .int .i64 v, .slice A l c] := HB1.out.2.below hb2 HB1.out.2.lt
      have j2 : w2.cell? ⟨w.heap.size, 2, none⟩ = some (.slice A l c) := hbk.cell 2
      have f2 : w2.frozen? ⟨w.heap.size, 2, none⟩ = false := hbk.frozen 2
      have HB2 : Hid (Blk (w2.setCell ⟨w.heap.size, 2, none⟩ (.slice A2 l c2)) w.heap.size 29 #[.int .i64 t, .int .i64 v, .slice A2 l c2] ∧ Chg (fun b => b = w.heap.size) w2 (w2.setCell ⟨w.heap.size, 2, none⟩ (.slice A2 l c2))) := Lib.hid ⟨hbk.set_ 2 _, Chg.setCell (T := fun b => b = w.heap.size) (Chg.refl _ _) (p := ⟨w.heap.size, 2, none⟩) rfl _⟩
      have H2 : Hid (w2.ownsRow w1.heap.size 39 2 (.slice A2 l c2) l (rowOf ecell L) ∧ Below w.heap.size w w2) := Lib.hid ⟨ho2, HB1.out.1.trans (hb2.mono HB1.out.1.size)⟩
      have HB12 : Hid (w1.heap.size ≤ w2.heap.size) := Lib.hid hb2.size
      clear ho2 hb2 hbk
      go_wp2_with (first | (refine wpList_load_row rfl 29 _ rfl w.heap.size rfl 29 #[.int .i64 t, .int .i64 v, .slice A2 l c2] (0, 0) _ HB2.out.1 Try.underlying29 rfl (by kernel_rfl) ?_) | fail)
      go_ret2
      have hsz2 : (w2.setCell ⟨w.heap.size, 2, none⟩ (.slice A2 l c2)).heap.size = w2.heap.size := by simp [World.setCell]
      have hBD := HBD.out
      have hid : ((id.toNat : Nat) : Int) = id := by omega
      have hn' : ((n.toNat : Nat) : Int) = n := by omega
      have hch : Chg (fun b => b = w.heap.size) w2 ((w2.setCell ⟨w.heap.size, 2, none⟩ (.slice A2 l c2)).alloc (.cells (svCells (Sv.begin_ id.toNat n.toNat t v L) A2 c2).toArray 74)) := HB2.out.2.alloc _
      have hs1 : w.heap.size < w1.heap.size := HB1.out.2.lt
      have ecs : (svCells (Sv.begin_ id.toNat n.toNat t v L) A2 c2).toArray = #[.int .i64 id, .int .i64 n, .int .i64 t, .int .i64 v, .slice A2 l c2, .int .u8 0, .int .i64 (-1), .int .i64 0, .int .u64 0, .int .i64 0, .int .i64 0, .int .i64 0, .int .i64 0, .int .i64 0, .int .i64 0, .int .i64 0, .int .i64 0, .int .i64 0, .int .i64 0, .int .i64 0, .int .i64 0, .int .i64 0, .int .i64 0] := by
        unfold svCells
        show (([.int .i64 ((id.toNat : Nat) : Int), .int .i64 ((n.toNat : Nat) : Int), .int .i64 t, .int .i64 v, .slice A2 L.length c2, .int .u8 0, .int .i64 (-1), .int .i64 0, .int .u64 0] ++ ((List.replicate 7 0).map icell ++ (List.replicate 7 0).map icell) : List Value).toArray) = _
        rw [hid, hn', HLL.out]
        rfl
      rw [← ecs]
      refine ⟨⟨w2.heap.size, A2, c2, rfl, Nat.le_of_lt (Nat.lt_of_lt_of_le HB1.out.2.lt (Nat.le_of_lt_succ (Nat.lt_succ_of_le (by have h := H2.out.2.size; have h2 := HB12.out; omega)))), fun a ha => by have := (World.ownsRow.lt H2.out.1 _ (own_block H2.out.1 a ha)).1; omega, ?_, ?_, rfl, rfl⟩, Chg.below H2.out.2 hch H2.out.2.size (fun k hk => Nat.le_of_eq hk.symm)⟩
      · have h := Blk.new (w2.setCell ⟨w.heap.size, 2, none⟩ (.slice A2 l c2)) 74 (svCells (Sv.begin_ id.toNat n.toNat t v L) A2 c2).toArray
        rw [hsz2] at h
        exact h
      · have h := H2.out.1
        rw [HLL.out] at h
        rw [HLL.out] at hch
        rw [HLL.out]
        exact own_chg (own_at h (fun _ _ => Nat.zero_le _)) hch (fun g' hg' he => by have := (World.ownsRow.lt h g' hg').1; omega)
end Go.Proofs.Ytjodglepaeomiaa
