/- The wait behind an attempt. -/
import Derived.Test.YticcicdbncmfbaaItr
import Derived.Test.YticcicdbncmfbaaPol
namespace Go.Proofs.Yticcicdbncmfbaa
open Go.RowKit Go.Shelf
attribute [local go_sem] Oper.semAt_some

theorem Blk.abx {B : Nat} {W W' : World} {row : Option Nat} {g : Nat} {t : TypeId} {cs : Array Value} (h : Blk W g t cs) (hg : W.grownBy W' row)
    (hr : ∀ r, row = some r → False ∨ (B ≤ r ∧ ∃ o : Obj, W.heap[r]? = some o ∧ o.isCells = false)) : Blk W' g t cs :=
  (hg.block g h.lt (fun e => by
    rcases hr g e.symm with hf | ⟨_, o, ho, hc⟩
    · exact hf
    · unfold Blk at h; rw [h] at ho; cases ho; simp [Obj.isCells] at hc)).trans h
theorem below_abx {B b : Nat} {w W W' : World} {row : Option Nat} (h : Below b w W) (hb : b ≤ B) (hw : b ≤ w.heap.size) (hg : W.grownBy W' row)
    (hr : ∀ r, row = some r → False ∨ (B ≤ r ∧ ∃ o : Obj, W.heap[r]? = some o ∧ o.isCells = false)) : Below b w W' :=
  h.grown hg (Nat.le_trans hw h.size) (fun r e => by
    rcases hr r e with hf | ⟨hB, _⟩
    · exact hf.elim
    · omega)

def lastN (l : List Nat) : Nat := l.getLastD 0
theorem lastN_snoc (l : List Nat) (x : Nat) : lastN (l ++ [x]) = x := by unfold lastN; simp [List.getLastD_eq_getLast?]

set_option maxHeartbeats 1000000 in
theorem wait_ok (f c n d : Nat) (M S : Int) (A : Option Addr) (L K : Nat) (at_ : Nat) (w : World) (hM : May f c n d M S L) (hc : c < 9223372036854775808) (ha : 1 ≤ at_) (ha2 : at_ < 9223372036854775808) :
    Calls Try.prog 10 #[.agg #[.int .i64 (f : Nat), .int .i64 (c : Nat), .int .i64 (n : Nat), .int .i64 (d : Nat), .int .i64 M, .int .i64 S, .slice A L K], .int .i64 at_] w fun e w' => e = .returned (.tuple #[.int .i64 (wseq c n d f (at_ - 1) : Nat), .int .i64 0]) ∧ Below w.heap.size w w' := by
  have hL : L ≤ 100 := by obtain ⟨_, _, _, _, _, _, _, _, _, h⟩ := hM; omega
  have HM := Lib.hid hM
  clear hM
  refine (callsIn_wide (n := 3)).1 ?_
  refine callsIn_of_wp_marks Try.func10 rfl trivial ?_ rfl
  simp only [Try.ntmps10, List.size_toArray, List.length_cons, List.length_nil, Nat.reduceAdd, Nat.reduceSub, Array.replicate_succ, Array.replicate_zero, List.push_toArray, List.append_toArray, List.nil_append, List.cons_append]
  gi_wp2
  refine ⟨trivial, (callsIn_wide.2 (check_any f c n d M S A L K _ (by omega))).mono ?_⟩
  rintro e w1 ⟨rfl, hb1⟩
  rw [err_yes HM.out]
  have hx1 : Blk w1 w.heap.size 24 #[.int .i64 (f : Nat), .int .i64 (c : Nat), .int .i64 (n : Nat), .int .i64 (d : Nat), .int .i64 M, .int .i64 S, .slice A L K] := ((Blk.new w 24 _).alloc _).below hb1 (by simp; omega)
  have hx2 : Blk w1 (w.heap.size + 1) 3 #[.int .i64 at_] := (by have := Blk.new (w.alloc (.cells #[.int .i64 (f : Nat), .int .i64 (c : Nat), .int .i64 (n : Nat), .int .i64 (d : Nat), .int .i64 M, .int .i64 S, .slice A L K] 24)) 3 #[.int .i64 at_]; simpa using this : Blk ((w.alloc (.cells #[.int .i64 (f : Nat), .int .i64 (c : Nat), .int .i64 (n : Nat), .int .i64 (d : Nat), .int .i64 M, .int .i64 S, .slice A L K] 24)).alloc (.cells #[.int .i64 at_] 3)) (w.heap.size + 1) 3 #[.int .i64 at_]).below hb1 (by simp)
  have hB1 : Below w.heap.size w w1 := (((Below.refl _ _).alloc (Nat.le_refl _) _).alloc (by simp) _).trans (hb1.mono (by simp; omega))
  have hsz : w.heap.size + 2 ≤ w1.heap.size := by have := hb1.size; simp at this; omega
  have hc2 : w1.cell? ⟨w.heap.size + 1, 0, none⟩ = some (.int .i64 at_) := hx2.cell 0
  have HX := Lib.hid hx1
  clear hb1 hx1
  gi_wp2_with (refine wpListIn_load_row rfl 24 _ rfl w.heap.size rfl 24 _ (0, 0) _ (HX.out.alloc _) Try.underlying24 rfl (by kernel_rfl) ?_)
  have hn : n ≤ 1000 := by obtain ⟨_, _, _, _, h, _⟩ := HM.out; omega
  have hd : 1 ≤ d := by obtain ⟨_, _, h, _⟩ := HM.out; omega
  have hdn : d ≤ n := by obtain ⟨_, _, _, h, _⟩ := HM.out; omega
  have hf : f ≤ c := by obtain ⟨_, h, _⟩ := HM.out; omega
  obtain ⟨b6, hb6⟩ : ∃ b, b = w1.heap.size := ⟨_, rfl⟩
  have hy2 := hx2.alloc (.cells #[.int .i64 0] 2)
  have hy6 := Blk.new w1 2 #[.int .i64 0]
  have hB2 := hB1.alloc hB1.size (.cells #[.int .i64 0] 2)
  have hs2 : (w1.alloc (.cells #[.int .i64 0] 2)).heap.size = b6 + 1 := by simp [hb6]
  rw [← hb6] at hy6 hsz ⊢
  clear hx2 hc2 HX hB1
  obtain ⟨w2, hw2⟩ : ∃ w2, w2 = w1.alloc (.cells #[.int .i64 0] 2) := ⟨_, rfl⟩
  rw [← hw2] at hy2 hy6 hB2 hs2 ⊢
  clear hw2 hb6
  have hww : w.heap.size ≤ w2.heap.size := by omega
  refine wpIn_range_own (n := 3) rfl (by omega) (gf := 23) (first := #[.agg #[.int .i64 (f : Nat), .int .i64 (c : Nat), .int .i64 (n : Nat), .int .i64 (d : Nat), .int .i64 M, .int .i64 S, .slice A L K]]) (lb := #[]) rfl trivial (enters_of Try.func23 (by kernel_rfl) rfl) (T := fun _ => False) (fun _ h => h.elim)
    (waits_seq f c n d M S A L K (fun k => k = w.heap.size + 1 ∨ k = b6) w2 (fun k h => by omega) hf hn hd hdn hc 2) KeepsRows.trans (fun W l o o' _ h ho _ => KeepsRows.putObj W l o o' h ho) (fun _ => rfl)
    (fun pre W => ∃ j : Nat, at_ = pre.length + j ∧ 1 ≤ j ∧ Blk W (w.heap.size + 1) 3 #[.int .i64 j] ∧ Blk W b6 2 #[.int .i64 (lastN pre : Nat)] ∧ Below w.heap.size w W)
    (fun cc pre W => cc = .exit 0 ∧ at_ = pre.length ∧ Blk W b6 2 #[.int .i64 (lastN pre : Nat)] ∧ Below w.heap.size w W)
    (fun s X Y row hs hg hr => by
      obtain ⟨j, h1, h2, h3, h4, h5⟩ := hs
      exact ⟨j, h1, h2, h3.abx hg hr, h4.abx hg hr, below_abx h5 hww (Nat.le_refl _) hg hr⟩)
    (fun cc s X Y row hs hg hr => by
      obtain ⟨h1, h2, h3, h4⟩ := hs
      exact ⟨h1, h2, h3.abx hg hr, below_abx h4 hww (Nat.le_refl _) hg hr⟩)
    ⟨at_, by simp, ha, hy2, hy6, hB2⟩
    (fun x => { tmps := #[.agg #[.int .i64 (f : Nat), .int .i64 (c : Nat), .int .i64 (n : Nat), .int .i64 (d : Nat), .int .i64 M, .int .i64 S, .slice A L K], .int .i64 at_, .pointer (some ⟨w.heap.size, 0, none⟩), .pointer (some ⟨w.heap.size + 1, 0, none⟩), .int .i64 0, .int .i64 0, .pointer (some ⟨b6, 0, none⟩), .int .i64 x, .agg #[.int .i64 (f : Nat), .int .i64 (c : Nat), .int .i64 (n : Nat), .int .i64 (d : Nat), .int .i64 M, .int .i64 S, .slice A L K], .int .i64 0, .bool false, .bool false, .int .i64 at_, .bool (decide ((at_ : Int) < 1)), .bool (decide ((at_ : Int) < 1)), .agg #[.int .i64 (f : Nat), .int .i64 (c : Nat), .int .i64 (n : Nat), .int .i64 (d : Nat), .int .i64 M, .int .i64 S, .slice A L K], .agg #[.int .i64 (f : Nat), .int .i64 (c : Nat), .int .i64 (n : Nat), .int .i64 (d : Nat), .int .i64 M, .int .i64 S, .slice A L K], .func (.func 23) #[.agg #[.int .i64 (f : Nat), .int .i64 (c : Nat), .int .i64 (n : Nat), .int .i64 (d : Nat), .int .i64 M, .int .i64 S, .slice A L K]] #[], .int .i64 x, undef, undef, undef, undef, undef, undef], defers := [] })
    ?assign ?body ?done ?stop
  case assign =>
    intro l x W K hK
    dsimp only [encN]
    gi_wp2
    exact hK
  case body =>
    rintro l pre x W ⟨j, hj, hj1, hA, hB, hBel⟩ _
    have hcA : W.cell? ⟨w.heap.size + 1, 0, none⟩ = some (.int .i64 j) := hA.cell 0
    have hfA := hA.frozen 0
    have hcB : W.cell? ⟨b6, 0, none⟩ = some (.int .i64 (lastN pre : Nat)) := hB.cell 0
    have hfB := hB.frozen 0
    have hne : w.heap.size + 1 ≠ b6 := by omega
    have HA := Lib.hid ((hA.far (p := ⟨b6, 0, none⟩) hne (.int .i64 x)).set_ 0 (.int .i64 ((j : Int) - 1)))
    have HB := Lib.hid ((hB.set_ 0 (.int .i64 x)).far (p := ⟨w.heap.size + 1, 0, none⟩) hne.symm (.int .i64 ((j : Int) - 1)))
    have HK := Lib.hid (KeepsRows.trans (KeepsRows.of_grown (T := fun k => k = w.heap.size + 1 ∨ k = b6) (only_setCell (only_of_below (Below.refl _ W) (some b6)) (p := ⟨b6, 0, none⟩) (Or.inl rfl) (.int .i64 x)) (fun r e => by cases e; exact Or.inr rfl))
      (KeepsRows.of_grown (only_setCell (only_of_below (Below.refl _ (W.setCell ⟨b6, 0, none⟩ (.int .i64 x))) (some (w.heap.size + 1))) (p := ⟨w.heap.size + 1, 0, none⟩) (Or.inl rfl) (.int .i64 ((j : Int) - 1))) (fun r e => by cases e; exact Or.inl rfl)))
    have HO := Lib.hid ((KeepsOthers.setCell W ⟨b6, 0, none⟩ (.int .i64 x)).trans (KeepsOthers.setCell _ ⟨w.heap.size + 1, 0, none⟩ (.int .i64 ((j : Int) - 1))))
    have HBel := Lib.hid ((hBel.setCell (p := ⟨b6, 0, none⟩) (by simp; omega) (.int .i64 x)).setCell (p := ⟨w.heap.size + 1, 0, none⟩) (by simp) (.int .i64 ((j : Int) - 1)))
    clear hA hB hBel
    by_cases hj2 : j = 1
    · subst hj2
      gi_wp2
      exact ⟨HO.out, HK.out, rfl, by rw [List.length_append]; exact hj, by rw [lastN_snoc]; exact HB.out, HBel.out⟩
    · have hj3 : 2 ≤ j := by omega
      gi_wp2
      exact ⟨HO.out, HK.out, j - 1, by rw [List.length_append, hj, List.length_singleton]; omega, by omega, by rw [show ((j - 1 : Nat) : Int) = (j : Int) - 1 by omega]; exact HA.out, by rw [lastN_snoc]; exact HB.out, HBel.out⟩
  case done =>
    rintro D xs W hD ⟨W2, o, ⟨k, rfl, hk⟩, hW⟩ ⟨j, hj, hj1, hA, hB, hBel⟩ hK
    clear hW
    have hcB : W.cell? ⟨b6, 0, none⟩ = some (.int .i64 (lastN (waitsL c n d f (k + 1)) : Nat)) := hB.cell 0
    have HV := Lib.hid (show wseq c n d f (at_ - 1) = lastN (waitsL c n d f (k + 1)) by
      rw [waitsL_succ, lastN_snoc, hj, waitsL_length, show k + 1 + j - 1 = k + j by omega, wseq_stays hk])
    clear hj hA hB hk
    gi_wp2
    refine ⟨by simp, .inl ⟨_, _, rfl, run_takeDeferred hK, ?_⟩⟩
    exact ⟨_, results_tmp2 rfl _ _ _, by rw [HV.out]; rfl, hBel.trans (belowK_b (w := w2) hww W D _ _ hD hK rfl rfl)⟩
  case stop =>
    rintro D cc pre W hD ⟨W2, o, ⟨k, rfl⟩, hW⟩ ⟨rfl, hlen, hB, hBel⟩ hK
    clear hW
    have hcB : W.cell? ⟨b6, 0, none⟩ = some (.int .i64 (lastN (waitsL c n d f (k + 1)) : Nat)) := hB.cell 0
    have HV := Lib.hid (show wseq c n d f (at_ - 1) = lastN (waitsL c n d f (k + 1)) by
      rw [waitsL_succ, lastN_snoc, hlen, waitsL_length, show k + 1 - 1 = k by omega])
    clear hlen hB
    gi_wp2
    refine ⟨by simp, .inl ⟨_, _, rfl, run_takeDeferred hK, ?_⟩⟩
    exact ⟨_, results_tmp2 rfl _ _ _, by rw [HV.out]; rfl, hBel.trans (belowK_b (w := w2) hww W D _ _ hD hK rfl rfl)⟩
end Go.Proofs.Yticcicdbncmfbaa
