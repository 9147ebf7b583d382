/- The iterator of the waits, each told to be a number of 63 bits; all waits together. -/
import Derived.Test.YticcicdbncmfbaaWai
import Derived.Test.YticcicdbncmfbaaAd2
namespace Go.Proofs.Yticcicdbncmfbaa
open Go.RowKit Go.Shelf
attribute [local go_sem] Oper.semAt_some

def wseqS (c n d f : Nat) (hf : f ≤ c) (hc : c < 9223372036854775808) (k : Nat) : { x : Nat // x < 9223372036854775808 } := ⟨wseq c n d f k, Nat.lt_of_le_of_lt (wseq_le hf k) hc⟩
def waitsS (c n d f : Nat) (hf : f ≤ c) (hc : c < 9223372036854775808) (k : Nat) : List { x : Nat // x < 9223372036854775808 } := (List.range k).map (wseqS c n d f hf hc)
theorem waitsS_succ (c n d f : Nat) (hf : f ≤ c) (hc : c < 9223372036854775808) (k : Nat) : waitsS c n d f hf hc (k + 1) = waitsS c n d f hf hc k ++ [wseqS c n d f hf hc k] := by
  unfold waitsS; rw [List.range_succ, List.map_append]; rfl
theorem waitsS_length (c n d f : Nat) (hf : f ≤ c) (hc : c < 9223372036854775808) (k : Nat) : (waitsS c n d f hf hc k).length = k := by unfold waitsS; simp
def encS (x : { x : Nat // x < 9223372036854775808 }) : Array Value := #[.int .i64 x.1]
def sumS (l : List { x : Nat // x < 9223372036854775808 }) : Nat := (l.map (·.1)).sum
def lastS (l : List { x : Nat // x < 9223372036854775808 }) : Nat := (l.map (·.1)).getLastD 0
theorem sumS_snoc (l : List { x : Nat // x < 9223372036854775808 }) (x : { x : Nat // x < 9223372036854775808 }) : sumS (l ++ [x]) = sumS l + x.1 := by unfold sumS; simp
theorem lastS_snoc (l : List { x : Nat // x < 9223372036854775808 }) (x : { x : Nat // x < 9223372036854775808 }) : lastS (l ++ [x]) = x.1 := by unfold lastS; simp [List.getLastD_eq_getLast?]
/-- The first k waits together. -/
def tsum (c n d f : Nat) : Nat → Nat
  | 0 => 0
  | k + 1 => tsum c n d f k + wseq c n d f k
theorem sumS_waits (c n d f : Nat) (hf : f ≤ c) (hc : c < 9223372036854775808) : ∀ k, sumS (waitsS c n d f hf hc k) = tsum c n d f k
  | 0 => rfl
  | k + 1 => by rw [waitsS_succ, sumS_snoc, sumS_waits c n d f hf hc k]; rfl
theorem tsum_stays {c n d f k : Nat} (h : wseq c n d f (k + 1) = wseq c n d f k) : ∀ j, tsum c n d f (k + 1 + j) = tsum c n d f (k + 1) + wseq c n d f k * j
  | 0 => by simp
  | j + 1 => by
    have h1 : tsum c n d f (k + 1 + (j + 1)) = tsum c n d f (k + 1 + j) + wseq c n d f (k + 1 + j) := rfl
    rw [h1, tsum_stays h j, show k + 1 + j = k + (1 + j) by omega, wseq_stays h (1 + j), Nat.mul_add, Nat.mul_one, Nat.add_assoc]
theorem satN_lt (a : Nat) : satN a < 9223372036854775808 := by unfold satN; omega
theorem satN_add (a b : Nat) : satN (satN a + b) = satN (a + b) := by unfold satN; omega
theorem satN_add2 (a b : Nat) : satN (satN a + satN b) = satN (a + b) := by unfold satN; omega

set_option maxHeartbeats 1000000 in
theorem waits_seqS (f c n d : Nat) (M S : Int) (A : Option Addr) (L K : Nat) (T : Nat → Prop) (w : World) (hT : ∀ k, T k → k < w.heap.size) (hf : f ≤ c) (hn : n ≤ 1000) (hd : 1 ≤ d) (hdn : d ≤ n) (hc : c < 9223372036854775808) (m : Nat) :
    SeqX Fence.wide m Try.prog 23 #[.agg #[.int .i64 (f : Nat), .int .i64 (c : Nat), .int .i64 (n : Nat), .int .i64 (d : Nat), .int .i64 M, .int .i64 S, .slice A L K]] #[] encS (KeepsRows T)
      (fun xs _ => ∃ k, xs = waitsS c n d f hf hc (k + 1) ∧ wseq c n d f (k + 1) = wseq c n d f k) (fun pre _ => ∃ k, pre = waitsS c n d f hf hc (k + 1)) 9223372036854775808 (fun _ => False) w := by
  intro l J Jx W hW hJ hJx hY h0
  refine callsIn_of_wp Try.func23 rfl trivial ?_ rfl
  simp only [Try.ntmps23, List.size_toArray, List.length_cons, List.length_nil, Nat.reduceAdd, Nat.reduceSub, Array.replicate_succ, Array.replicate_zero, List.push_toArray, List.append_toArray, List.nil_append, List.cons_append]
  gi_wp2
  gi_loopw [4] (fun p wr => ∃ k : Nat, p = .int .i64 (wseq c n d f k : Nat) ∧ J (waitsS c n d f hf hc k) wr ∧ f + k ≤ wseq c n d f k ∧ W.heap.size < wr.heap.size ∧ Blk wr W.heap.size 53 #[.int .i64 (f : Nat), .int .i64 (c : Nat), .int .i64 (n : Nat), .int .i64 (d : Nat), .int .i64 M, .int .i64 S, .slice A L K]) (fun p _ => c - (intOf p).toNat)
  case atStart =>
    exact ⟨0, rfl, hJ _ _ _ none h0 (World.grownBy_alloc _ _ none) (fun r e => by cases e), Nat.le_refl _, by simp, Blk.new W 53 _⟩
  case round =>
    obtain ⟨k, rfl, hj, hk, hsz, hb⟩ := hrel
    have hx := wseq_le (n := n) (d := d) hf k
    have hnx := next_ge (n := n) (d := d) hd hdn hx
    have hsucc : wseq c n d f (k + 1) = nextN c n d (wseq c n d f k) := rfl
    obtain ⟨x, hxe⟩ : ∃ x, x = wseq c n d f k := ⟨_, rfl⟩
    rw [← hxe] at hx hk hnx hsucc ⊢
    have hxl : x < 9223372036854775808 := by omega
    have hL := waitsS_succ c n d f hf hc k
    have hxs : wseqS c n d f hf hc k = ⟨x, hxl⟩ := Subtype.ext hxe.symm
    rw [hxs] at hL
    obtain ⟨fn, tmps, assign, body, hy, hR⟩ := hY (waitsS c n d f hf hc k) ⟨x, hxl⟩ wr hj (by rw [waitsS_length]; omega)
    dsimp only [encS] at hy hR
    rw [← hL] at hR
    have HS := Lib.hid hsucc
    have HXE := Lib.hid hxe
    have hTg : ¬ T W.heap.size := fun h => by have := hT _ h; have := hW.size; omega
    clear hL hsucc hxe
    gi_wp2
    refine ⟨fun h => by simp [Fence.wide] at h, hR.mono ?_⟩
    rintro e W' (⟨rfl, hJ', hk'⟩ | ⟨rfl, hJx', hk'⟩)
    · have hb' := hb.keepsRows hk' hTg
      gi_wp2_with (refine wpListIn_load_row rfl 24 _ rfl W.heap.size rfl 53 _ (0, 0) _ hb' Try.underlying24 rfl (by kernel_rfl) ?_)
      refine ⟨trivial, fun h => by simp [Fence.wide] at h, (callsIn_wide.2 (grown_any f M S c n d A L K x W' hn hd hdn hc (by omega))).mono ?_⟩
      rintro e W2 ⟨rfl, hb2⟩
      have hJ2 := hJ _ _ _ none hJ' (only_of_below hb2 none) (fun r e => by cases e)
      have hb3 := hb'.below hb2 (Nat.lt_of_lt_of_le hsz hk'.1)
      have hsz2 : W.heap.size < W2.heap.size := Nat.lt_of_lt_of_le (Nat.lt_of_lt_of_le hsz hk'.1) hb2.size
      have hnl := next_le c n d x
      obtain ⟨y, hy2⟩ : ∃ y, y = nextN c n d x := ⟨_, rfl⟩
      rw [← hy2] at hnx hnl HS ⊢
      clear hy2 hy hR hY hJ' hk' hb2 hb hb'
      by_cases hxy : y = x
      · gi_wp2
        refine bodyPost_ret (results_none rfl _ _ _) rfl ?_
        exact ⟨⟨_, rfl⟩, .inl ⟨_, ⟨k, rfl, by rw [HS.out, ← HXE.out, hxy]⟩, hJ2⟩⟩
      · gi_wp2
        go_roundw
        case rel => exact ⟨k + 1, by rw [HS.out], hJ2, by rw [HS.out]; omega, hsz2, hb3⟩
        case measure => simp [intOf]; omega
    · gi_wp2
      go_end0
      exact ⟨⟨_, rfl⟩, .inr ⟨_, ⟨k, rfl⟩, hJx'⟩⟩
end Go.Proofs.Yticcicdbncmfbaa
