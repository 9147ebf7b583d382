/- The iterator of the waits. -/
import Derived.Test.YticcicdbncmfbaaCpy
import Derived.Test.YticcicdbncmfbaaSeq
import Derived.Shelf.Abstract
import Derived.Shelf.RegionOpen
import Derived.OwnWalkIn
import Derived.TacticsInMore
import Derived.LoopNIn
import Derived.LoopIn
namespace Go.Proofs.Yticcicdbncmfbaa
open Go.RowKit Go.Shelf
attribute [local go_sem] Oper.semAt_some

def wseq (c n d f : Nat) : Nat → Nat
  | 0 => f
  | k + 1 => nextN c n d (wseq c n d f k)
def waitsL (c n d f k : Nat) : List Nat := (List.range k).map (wseq c n d f)
theorem waitsL_succ (c n d f k : Nat) : waitsL c n d f (k + 1) = waitsL c n d f k ++ [wseq c n d f k] := by
  unfold waitsL; rw [List.range_succ, List.map_append]; rfl
theorem waitsL_length (c n d f k : Nat) : (waitsL c n d f k).length = k := by unfold waitsL; simp
theorem next_ge {c n d w : Nat} (hd : 1 ≤ d) (hdn : d ≤ n) (hw : w ≤ c) : w ≤ nextN c n d w := by
  unfold nextN
  split
  · refine Nat.le_min.2 ⟨hw, (Nat.le_div_iff_mul_le hd).2 (Nat.mul_le_mul_left _ hdn)⟩
  · exact hw
theorem next_le (c n d w : Nat) : nextN c n d w ≤ c := by
  unfold nextN
  split
  · exact Nat.min_le_left _ _
  · exact Nat.le_refl _
theorem wseq_le {c n d f : Nat} (hf : f ≤ c) : ∀ k, wseq c n d f k ≤ c
  | 0 => hf
  | _ + 1 => next_le _ _ _ _
theorem wseq_stays {c n d f k : Nat} (h : wseq c n d f (k + 1) = wseq c n d f k) : ∀ j, wseq c n d f (k + j) = wseq c n d f k
  | 0 => rfl
  | j + 1 => by
    have h1 : wseq c n d f (k + (j + 1)) = nextN c n d (wseq c n d f (k + j)) := rfl
    rw [h1, wseq_stays h j]
    exact h

/-- Rows of cells that are none of T lie as they lay. -/
def KeepsRows (T : Nat → Prop) (W W' : World) : Prop := W.heap.size ≤ W'.heap.size ∧ ∀ k cs t fr, ¬ T k → W.heap[k]? = some (.cells cs t fr) → W'.heap[k]? = some (.cells cs t fr)
theorem KeepsRows.trans {T : Nat → Prop} {A B C : World} (h : KeepsRows T A B) (k : KeepsRows T B C) : KeepsRows T A C :=
  ⟨Nat.le_trans h.1 k.1, fun i cs t fr hi ho => k.2 i cs t fr hi (h.2 i cs t fr hi ho)⟩
theorem KeepsRows.of_grown {T : Nat → Prop} {W W' : World} {row : Option Nat} (h : W.grownBy W' row) (hr : ∀ r, row = some r → T r) : KeepsRows T W W' :=
  ⟨h.size, fun k _cs _t _fr hk ho => (h.block k (Array.getElem?_eq_some_iff.1 ho).1 (fun e => hk (hr k e.symm))).trans ho⟩
theorem KeepsRows.putObj {T : Nat → Prop} (W : World) (l : Nat) (o o' : Obj) (h : W.heap[l]? = some o) (ho : o.isCells = false) : KeepsRows T W (W.putObj l o') :=
  ⟨by simp, fun k _cs _t _fr _ hk => by
    have hne : k ≠ l := by rintro rfl; rw [h] at hk; cases hk; simp [Obj.isCells] at ho
    exact (World.putObj_heap_other hne).trans hk⟩
theorem Blk.keepsRows {T : Nat → Prop} {W W' : World} {g : Nat} {t : TypeId} {cs : Array Value} (h : Blk W g t cs) (hk : KeepsRows T W W') (hT : ¬ T g) : Blk W' g t cs := hk.2 g cs t _ hT h

theorem wpListIn_load_row {F : Fence} {m : Nat} {P : Program} {ops : Array Oper} {rest : List Oper} {o : Oper} {a : Act} {w : World} {Q : Exit → Act → World → Prop} (hgd : o.guard = none) (ty : TypeId) (x : Operand) (ho : o.op = .load ty x)
    (g : Nat) (hx : a.eval x = .pointer (some ⟨g, 0, none⟩)) (t : TypeId) (cs : Array Value) (fr : Nat × Nat) (d : TypeDesc) (hg : w.heap[g]? = some (.cells cs t fr))
    (hu : P.underlying ty = some d) (hd : (match d with | .struct _ | .array _ _ => true | _ => false) = true) (hi : (P.info? ty).map (·.size) = some cs.size)
    (h : wpListIn F m P ops Q rest (a.put o.dst (.agg cs)) w) : wpListIn F m P ops Q (o :: rest) a w := by
  refine wpListIn_plain hgd fun K hK => ?_
  unfold Oper.wpIn
  refine ⟨by simp [Oper.about, ho], ?_⟩
  rw [Oper.semAt_plain F _ _ (by rw [ho]; intro c hc'; cases hc')]
  unfold execOp
  simp only [ho, hx, Instr.loadAt, Instr.sureAddr, Sem.run_bind, Sem.run_pure, Result.andThen_ok, run_loadVar_row w g t ty cs fr d hg hu hd hi]
  exact hK _ _ h

def encN (x : Nat) : Array Value := #[.int .i64 x]

set_option maxHeartbeats 1000000 in
theorem waits_seq (f c n d : Nat) (M S : Int) (A : Option Addr) (L K : Nat) (T : Nat → Prop) (w : World) (hT : ∀ k, T k → k < w.heap.size) (hf : f ≤ c) (hn : n ≤ 1000) (hd : 1 ≤ d) (hdn : d ≤ n) (hc : c < 9223372036854775808) (m : Nat) :
    SeqX Fence.wide m Try.prog 23 #[.agg #[.int .i64 (f : Nat), .int .i64 (c : Nat), .int .i64 (n : Nat), .int .i64 (d : Nat), .int .i64 M, .int .i64 S, .slice A L K]] #[] encN (KeepsRows T)
      (fun xs _ => ∃ k, xs = waitsL c n d f (k + 1) ∧ wseq c n d f (k + 1) = wseq c n d f k) (fun pre _ => ∃ k, pre = waitsL c n d f (k + 1)) 9223372036854775808 (fun _ => False) w := by
  intro l J Jx W hW hJ hJx hY h0
  refine callsIn_of_wp Try.func23 rfl trivial ?_ rfl
  simp only [Try.ntmps23, List.size_toArray, List.length_cons, List.length_nil, Nat.reduceAdd, Nat.reduceSub, Array.replicate_succ, Array.replicate_zero, List.push_toArray, List.append_toArray, List.nil_append, List.cons_append]
  gi_wp2
  gi_loopw [4] (fun p wr => ∃ k : Nat, p = .int .i64 (wseq c n d f k : Nat) ∧ J (waitsL c n d f k) wr ∧ f + k ≤ wseq c n d f k ∧ W.heap.size < wr.heap.size ∧ Blk wr W.heap.size 53 #[.int .i64 (f : Nat), .int .i64 (c : Nat), .int .i64 (n : Nat), .int .i64 (d : Nat), .int .i64 M, .int .i64 S, .slice A L K]) (fun p _ => c - (intOf p).toNat)
  case atStart =>
    exact ⟨0, rfl, hJ _ _ _ none h0 (World.grownBy_alloc _ _ none) (fun r e => by cases e), Nat.le_refl _, by simp, Blk.new W 53 _⟩
  case round =>
    obtain ⟨k, rfl, hj, hk, hsz, hb⟩ := hrel
    have hx := wseq_le (n := n) (d := d) hf k
    have hnx := next_ge (n := n) (d := d) hd hdn hx
    have hsucc : wseq c n d f (k + 1) = nextN c n d (wseq c n d f k) := rfl
    have hL := waitsL_succ c n d f k
    obtain ⟨x, hxe⟩ : ∃ x, x = wseq c n d f k := ⟨_, rfl⟩
    rw [← hxe] at hx hk hnx hsucc hL ⊢
    obtain ⟨fn, tmps, assign, body, hy, hR⟩ := hY (waitsL c n d f k) x wr hj (by rw [waitsL_length]; omega)
    dsimp only [encN] at hy hR
    rw [← hL] at hR
    have HS := Lib.hid hsucc
    have HXE := Lib.hid hxe
    have hTg : ¬ T W.heap.size := fun h => by have := hT _ h; have := hW.size; omega
    clear hL hsucc hxe
    gi_wp2
    refine ⟨fun h => by simp [Fence.wide] at h, hR.mono ?_⟩
    rintro e W' (⟨rfl, hJ', hk'⟩ | ⟨rfl, hJx', hk'⟩)
    · have hb' := hb.keepsRows hk' hTg
      gi_wp2_with (refine wpListIn_load_row rfl 24 _ rfl W.heap.size rfl 53 _ (0, 0) _ hb' Try.underlying24 rfl (by kernel_rfl) ?_)
      refine ⟨trivial, fun h => by simp [Fence.wide] at h, (callsIn_wide.2 (grown_any f M S c n d A L K x W' hn hd hdn hc (by omega))).mono ?_⟩
      rintro e W2 ⟨rfl, hb2⟩
      have hJ2 := hJ _ _ _ none hJ' (only_of_below hb2 none) (fun r e => by cases e)
      have hb3 := hb'.below hb2 (Nat.lt_of_lt_of_le hsz hk'.1)
      have hsz2 : W.heap.size < W2.heap.size := Nat.lt_of_lt_of_le (Nat.lt_of_lt_of_le hsz hk'.1) hb2.size
      have hnl := next_le c n d x
      obtain ⟨y, hy2⟩ : ∃ y, y = nextN c n d x := ⟨_, rfl⟩
      rw [← hy2] at hnx hnl HS ⊢
      clear hy2 hy hR hY hJ' hk' hb2 hb hb'
      by_cases hxy : y = x
      · gi_wp2
        refine bodyPost_ret (results_none rfl _ _ _) rfl ?_
        exact ⟨⟨_, rfl⟩, .inl ⟨_, ⟨k, rfl, by rw [HS.out, ← HXE.out, hxy]⟩, hJ2⟩⟩
      · gi_wp2
        go_roundw
        case rel => exact ⟨k + 1, by rw [HS.out], hJ2, by rw [HS.out]; omega, hsz2, hb3⟩
        case measure => simp [intOf]; omega
    · gi_wp2
      go_end0
      exact ⟨⟨_, rfl⟩, .inr ⟨_, ⟨k, rfl⟩, hJx'⟩⟩
end Go.Proofs.Yticcicdbncmfbaa
