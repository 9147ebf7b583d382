/- All waits together. -/
import Derived.Test.YticcicdbncmfbaaIt2
import Derived.Test.YticcicdbncmfbaaRfw
import Derived.Deep.QuietTactic
import Derived.BigQuiet
namespace Go.Proofs.Yticcicdbncmfbaa
open Go.RowKit Go.Shelf
attribute [local go_sem] Oper.semAt_some

theorem lastS_lt (l : List { x : Nat // x < 9223372036854775808 }) : lastS l < 9223372036854775808 := by
  rcases List.eq_nil_or_concat l with rfl | ⟨q, x, rfl⟩
  · decide
  · rw [List.concat_eq_append, lastS_snoc]; exact x.2

set_option maxHeartbeats 2000000 in
theorem total_ok (f c n d most : Nat) (S : Int) (A : Option Addr) (L K : Nat) (w : World) (hM : May f c n d most S L) (hc : c < 9223372036854775808) :
    Calls Try.prog 12 #[.agg #[.int .i64 (f : Nat), .int .i64 (c : Nat), .int .i64 (n : Nat), .int .i64 (d : Nat), .int .i64 (most : Nat), .int .i64 S, .slice A L K]] w fun e w' => e = .returned (.tuple #[.int .i64 (satN (tsum c n d f (most - 1)) : Nat), .int .i64 0]) ∧ Below w.heap.size w w' := by
  have hL : L ≤ 100 := by obtain ⟨_, _, _, _, _, _, _, _, _, h⟩ := hM; omega
  have hn : n ≤ 1000 := by obtain ⟨_, _, _, _, h, _⟩ := hM; omega
  have hd : 1 ≤ d := by obtain ⟨_, _, h, _⟩ := hM; omega
  have hdn : d ≤ n := by obtain ⟨_, _, _, h, _⟩ := hM; omega
  have hf : f ≤ c := by obtain ⟨_, h, _⟩ := hM; omega
  have hm1 : 1 ≤ most := by obtain ⟨_, _, _, _, _, h, _⟩ := hM; omega
  have hm2 : most ≤ 1000 := by obtain ⟨_, _, _, _, _, _, h, _⟩ := hM; omega
  have HM := Lib.hid hM
  clear hM
  refine (callsIn_wide (n := 4)).1 ?_
  refine callsIn_of_wp_marks Try.func12 rfl trivial ?_ rfl
  simp only [Try.ntmps12, List.size_toArray, List.length_cons, List.length_nil, Nat.reduceAdd, Nat.reduceSub, Array.replicate_succ, Array.replicate_zero, List.push_toArray, List.append_toArray, List.nil_append, List.cons_append]
  gi_wp2
  refine ⟨trivial, (callsIn_wide.2 (check_any f c n d most S A L K _ (by omega))).mono ?_⟩
  rintro e w1 ⟨rfl, hb1⟩
  rw [err_yes HM.out]
  have hx1 : Blk w1 w.heap.size 24 #[.int .i64 (f : Nat), .int .i64 (c : Nat), .int .i64 (n : Nat), .int .i64 (d : Nat), .int .i64 (most : Nat), .int .i64 S, .slice A L K] := (Blk.new w 24 _).below hb1 (by simp)
  have hB1 : Below w.heap.size w w1 := ((Below.refl _ _).alloc (Nat.le_refl _) _).trans (hb1.mono (by simp))
  have hsz : w.heap.size < w1.heap.size := by have := hb1.size; simp at this; omega
  have hc4 : w1.cell? ⟨w.heap.size, 4, none⟩ = some (.int .i64 most) := hx1.cell 4
  have HX := Lib.hid hx1
  clear hb1 hx1
  gi_wp2_with (refine wpListIn_load_row rfl 24 _ rfl w.heap.size rfl 24 _ (0, 0) _ (((HX.out.alloc _).alloc _).alloc _) Try.underlying24 rfl (by kernel_rfl) ?_)
  obtain ⟨b5, hb5⟩ : ∃ b, b = w1.heap.size := ⟨_, rfl⟩
  have hz5 := ((Blk.new w1 2 #[.int .i64 0]).alloc (.cells #[.int .i64 0] 2)).alloc (.cells #[.int .i64 ((most : Int) - 1)] 3)
  have hz6 := (Blk.new (w1.alloc (.cells #[.int .i64 0] 2)) 2 #[.int .i64 0]).alloc (.cells #[.int .i64 ((most : Int) - 1)] 3)
  have hz7 := Blk.new ((w1.alloc (.cells #[.int .i64 0] 2)).alloc (.cells #[.int .i64 0] 2)) 3 #[.int .i64 ((most : Int) - 1)]
  have hB2 := ((hB1.alloc hB1.size (.cells #[.int .i64 0] 2)).alloc (Nat.le_trans hB1.size (by simp)) (.cells #[.int .i64 0] 2)).alloc (Nat.le_trans hB1.size (by simp; omega)) (.cells #[.int .i64 ((most : Int) - 1)] 3)
  have hs2 : (((w1.alloc (.cells #[.int .i64 0] 2)).alloc (.cells #[.int .i64 0] 2)).alloc (.cells #[.int .i64 ((most : Int) - 1)] 3)).heap.size = b5 + 3 := by simp [hb5]
  simp only [World.size_alloc] at hz6 hz7
  rw [← hb5] at hz5 hz6 hz7 hsz ⊢
  clear hc4 HX hB1
  obtain ⟨w2, hw2⟩ : ∃ w2, w2 = ((w1.alloc (.cells #[.int .i64 0] 2)).alloc (.cells #[.int .i64 0] 2)).alloc (.cells #[.int .i64 ((most : Int) - 1)] 3) := ⟨_, rfl⟩
  rw [← hw2] at hz5 hz6 hz7 hB2 hs2 ⊢
  clear hw2 hb5
  have hww : w.heap.size ≤ w2.heap.size := by omega
  obtain ⟨b6, hb6⟩ : ∃ b, b = b5 + 1 := ⟨_, rfl⟩
  obtain ⟨b7, hb7⟩ : ∃ b, b = b5 + 1 + 1 := ⟨_, rfl⟩
  rw [← hb6] at hz6 hb7 ⊢
  rw [show b5 + 1 + 1 = b7 by omega] at hz7
  have hb7' : b6 + 1 = b7 := by omega
  rw [hb7']
  have hl1 : b5 < b6 := by omega
  have hl2 : b6 < b7 := by omega
  have hl3 : b7 < w2.heap.size := by omega
  clear hb6 hb7 hb7' hs2
  obtain ⟨mj, hmj⟩ : ∃ j : Nat, most = j + 1 := ⟨most - 1, by omega⟩
  have hmi : (most : Int) - 1 = (mj : Int) := by omega
  rw [hmi] at hz7 ⊢
  have HMJ := Lib.hid hmj
  clear hmj hmi
  refine wpIn_range_own (n := 4) rfl (by omega) (gf := 23) (first := #[.agg #[.int .i64 (f : Nat), .int .i64 (c : Nat), .int .i64 (n : Nat), .int .i64 (d : Nat), .int .i64 (most : Nat), .int .i64 S, .slice A L K]]) (lb := #[]) rfl trivial (enters_of Try.func23 (by kernel_rfl) rfl) (T := fun _ => False) (fun _ h => h.elim)
    (waits_seqS f c n d most S A L K (fun k => k = b5 ∨ k = b6 ∨ k = b7) w2 (fun k h => by omega) hf hn hd hdn hc 3) KeepsRows.trans (fun W l o o' _ h ho _ => KeepsRows.putObj W l o o' h ho) (fun _ => rfl)
    (fun pre W => ∃ j : Nat, mj = pre.length + j ∧ Blk W b7 3 #[.int .i64 j] ∧ Blk W b5 2 #[.int .i64 (satN (sumS pre) : Nat)] ∧ Blk W b6 2 #[.int .i64 (lastS pre : Nat)] ∧ Below w.heap.size w W)
    (fun cc pre W => cc = .exit 0 ∧ ∃ q x, pre = q ++ [x] ∧ mj = q.length ∧ Blk W b7 3 #[.int .i64 0] ∧ Blk W b5 2 #[.int .i64 (satN (sumS q) : Nat)] ∧ Blk W b6 2 #[.int .i64 (lastS q : Nat)] ∧ Below w.heap.size w W)
    (fun s X Y row hs hg hr => by
      obtain ⟨j, h1, h2, h3, h4, h5⟩ := hs
      exact ⟨j, h1, h2.abx hg hr, h3.abx hg hr, h4.abx hg hr, below_abx h5 hww (Nat.le_refl _) hg hr⟩)
    (fun cc s X Y row hs hg hr => by
      obtain ⟨h1, q, x, h2, h3, h4, h5, h6, h7⟩ := hs
      exact ⟨h1, q, x, h2, h3, h4.abx hg hr, h5.abx hg hr, h6.abx hg hr, below_abx h7 hww (Nat.le_refl _) hg hr⟩)
    ⟨mj, by simp, hz7, hz5, hz6, hB2⟩
    (fun x => { tmps := #[.agg #[.int .i64 (f : Nat), .int .i64 (c : Nat), .int .i64 (n : Nat), .int .i64 (d : Nat), .int .i64 (most : Nat), .int .i64 S, .slice A L K], .pointer (some ⟨w.heap.size, 0, none⟩), .int .i64 0, .int .i64 0, .int .i64 0, .pointer (some ⟨b5, 0, none⟩), .pointer (some ⟨b6, 0, none⟩), .pointer (some ⟨b7, 0, none⟩), .int .i64 x.1, .agg #[.int .i64 (f : Nat), .int .i64 (c : Nat), .int .i64 (n : Nat), .int .i64 (d : Nat), .int .i64 (most : Nat), .int .i64 S, .slice A L K], .int .i64 0, .int .i64 0, .bool false, undef, .pointer (some ⟨w.heap.size, 4, none⟩), .int .i64 most, .int .i64 mj, .agg #[.int .i64 (f : Nat), .int .i64 (c : Nat), .int .i64 (n : Nat), .int .i64 (d : Nat), .int .i64 (most : Nat), .int .i64 S, .slice A L K], .agg #[.int .i64 (f : Nat), .int .i64 (c : Nat), .int .i64 (n : Nat), .int .i64 (d : Nat), .int .i64 (most : Nat), .int .i64 S, .slice A L K], .func (.func 23) #[.agg #[.int .i64 (f : Nat), .int .i64 (c : Nat), .int .i64 (n : Nat), .int .i64 (d : Nat), .int .i64 (most : Nat), .int .i64 S, .slice A L K]] #[], .int .i64 x.1, undef, undef, undef, undef, undef, undef, undef, undef, undef, undef, undef, undef, undef], defers := [] })
    ?assign ?body ?done ?stop
  case assign =>
    intro l x W K hK
    dsimp only [encS]
    gi_wp2
    exact hK
  case body =>
    rintro l pre x W ⟨j, hj, hA, hB, hC, hBel⟩ _
    have hcA : W.cell? ⟨b7, 0, none⟩ = some (.int .i64 j) := hA.cell 0
    have hcB : W.cell? ⟨b5, 0, none⟩ = some (.int .i64 (satN (sumS pre) : Nat)) := hB.cell 0
    have hcC : W.cell? ⟨b6, 0, none⟩ = some (.int .i64 (lastS pre : Nat)) := hC.cell 0
    have hfA := hA.frozen 0
    have hfB := hB.frozen 0
    have hfC := hC.frozen 0
    have HJ := Lib.hid hj
    clear hj
    by_cases hj0 : j = 0
    · subst hj0
      have HR := Lib.hid (And.intro hA (And.intro hB (And.intro hC hBel)))
      clear hA hB hC hBel
      gi_wp2
      exact ⟨KeepsOthers.refl _, ⟨Nat.le_refl _, fun _ _ _ _ _ h => h⟩, rfl, pre, x, rfl, HJ.out, HR.out.1, HR.out.2.1, HR.out.2.2.1, HR.out.2.2.2⟩
    · obtain ⟨x, hxl⟩ := x
      have n1 : b5 ≠ b6 := by omega
      have n2 : b5 ≠ b7 := by omega
      have n3 : b6 ≠ b7 := by omega
      obtain ⟨i, rfl⟩ : ∃ i, j = i + 1 := ⟨j - 1, by omega⟩
      have HS := Lib.hid (satN_add (sumS pre) x)
      have HL := Lib.hid (And.intro (sumS_snoc pre ⟨x, hxl⟩) (lastS_snoc pre ⟨x, hxl⟩))
      have hsl := satN_lt (sumS pre)
      obtain ⟨u, hu⟩ : ∃ u, u = satN (sumS pre + x) := ⟨_, rfl⟩
      have HU := Lib.hid hu
      have HA := Lib.hid (((hA.far (p := ⟨b5, 0, none⟩) n2.symm (.int .i64 u)).far (p := ⟨b6, 0, none⟩) n3.symm (.int .i64 x)).set_ 0 (.int .i64 i))
      have HB := Lib.hid (((hB.set_ 0 (.int .i64 u)).far (p := ⟨b6, 0, none⟩) n1 (.int .i64 x)).far (p := ⟨b7, 0, none⟩) n2 (.int .i64 i))
      have HC := Lib.hid (((hC.far (p := ⟨b5, 0, none⟩) n1.symm (.int .i64 u)).set_ 0 (.int .i64 x)).far (p := ⟨b7, 0, none⟩) n3 (.int .i64 i))
      have hg := fun (X : World) (b : Nat) (v : Value) => only_setCell (only_of_below (Below.refl _ X) (some b)) (p := ⟨b, 0, none⟩) (Or.inl rfl) v
      have HK := Lib.hid (((KeepsRows.of_grown (T := fun k => k = b5 ∨ k = b6 ∨ k = b7) (hg W b5 (.int .i64 u)) (fun r e => by cases e; exact Or.inl rfl)).trans (KeepsRows.of_grown (hg _ b6 (.int .i64 x)) (fun r e => by cases e; exact Or.inr (Or.inl rfl)))).trans (KeepsRows.of_grown (hg _ b7 (.int .i64 i)) (fun r e => by cases e; exact Or.inr (Or.inr rfl))))
      have HO := Lib.hid (((KeepsOthers.setCell W ⟨b5, 0, none⟩ (.int .i64 u)).trans (KeepsOthers.setCell _ ⟨b6, 0, none⟩ (.int .i64 x))).trans (KeepsOthers.setCell _ ⟨b7, 0, none⟩ (.int .i64 i)))
      have HBel := Lib.hid (((hBel.setCell (p := ⟨b5, 0, none⟩) (by simp; omega) (.int .i64 u)).setCell (p := ⟨b6, 0, none⟩) (by simp; omega) (.int .i64 x)).setCell (p := ⟨b7, 0, none⟩) (by simp; omega) (.int .i64 i))
      clear hA hB hC hBel hg hu
      gi_wp2
      refine ⟨trivial, (CallsIn.inRound l (callsIn_wide.2 (add_any _ x hsl hxl W))).mono ?_⟩
      rintro e w' ⟨rfl, rfl⟩
      rw [HS.out, ← HU.out]
      have n1' := n1.symm
      have n2' := n2.symm
      have n3' := n3.symm
      have hib : i < 1000 := by have h1 := HMJ.out; have h2 := HJ.out; omega
      gi_wp2
      exact ⟨HO.out, HK.out, i, by rw [List.length_append, HJ.out, List.length_singleton]; omega, HA.out, by rw [HL.out.1, ← HU.out]; exact HB.out, by rw [HL.out.2]; exact HC.out, HBel.out⟩
  case done =>
    rintro D xs W hD ⟨W2, o, ⟨k, rfl, hk⟩, hW⟩ ⟨j, hj, hA, hB, hC, hBel⟩ hK
    clear hW
    have hcA : W.cell? ⟨b7, 0, none⟩ = some (.int .i64 j) := hA.cell 0
    have hcB : W.cell? ⟨b5, 0, none⟩ = some (.int .i64 (satN (sumS (waitsS c n d f hf hc (k + 1))) : Nat)) := hB.cell 0
    have hcC : W.cell? ⟨b6, 0, none⟩ = some (.int .i64 (lastS (waitsS c n d f hf hc (k + 1)) : Nat)) := hC.cell 0
    rw [sumS_waits] at hcB
    rw [waitsS_succ, lastS_snoc] at hcC
    have hp : (wseqS c n d f hf hc k).1 < 9223372036854775808 := (wseqS c n d f hf hc k).2
    obtain ⟨p, hpe⟩ : ∃ p, p = (wseqS c n d f hf hc k).1 := ⟨_, rfl⟩
    rw [← hpe] at hp hcC
    rw [waitsS_length] at hj
    have HV := Lib.hid (show satN (tsum c n d f (most - 1)) = satN (satN (tsum c n d f (k + 1)) + satN (p * j)) by
      rw [satN_add2, HMJ.out, Nat.add_sub_cancel, hj, tsum_stays hk j, hpe]; rfl)
    have hjl : j < 1000 := by have := HMJ.out; omega
    clear hj hk hpe hA hB hC
    gi_wp2
    refine wpIn_wide.2 ?_
    go_quiet (first
      | (go_at_call 25; exact Calls.quiet_of_same ((mulS_any p j hp hjl _).mono fun _ _ h => ⟨h.1, h.2.symm⟩))
      | (go_at_call 22; exact Calls.quiet_of_same ((add_any _ _ (satN_lt _) (satN_lt _) _).mono fun _ _ h => ⟨h.1, h.2.symm⟩)))
    all_goals (go_wp2_with fail)
    all_goals gi_wp2
    all_goals (refine ⟨by simp, .inl ⟨_, _, rfl, run_takeDeferred (w := W.drewN _) hK, ?_⟩⟩)
    all_goals (exact ⟨_, results_tmp2 rfl _ _ _, by rw [HV.out]; rfl, (below_drewN hBel _).trans (belowK_b (w := w2) hww (W.drewN _) D _ _ hD hK rfl rfl)⟩)
  case stop =>
    rintro D cc pre W hD ⟨W2, o, ⟨k, rfl⟩, hW⟩ ⟨rfl, q, x, hq, hlen, hA, hB, hC, hBel⟩ hK
    clear hW
    rw [waitsS_succ] at hq
    obtain rfl : waitsS c n d f hf hc k = q := (List.append_inj' hq rfl).1
    have hcA : W.cell? ⟨b7, 0, none⟩ = some (.int .i64 (0 : Nat)) := hA.cell 0
    have hcB : W.cell? ⟨b5, 0, none⟩ = some (.int .i64 (satN (sumS (waitsS c n d f hf hc k)) : Nat)) := hB.cell 0
    have hcC : W.cell? ⟨b6, 0, none⟩ = some (.int .i64 (lastS (waitsS c n d f hf hc k) : Nat)) := hC.cell 0
    rw [sumS_waits] at hcB
    have hp := lastS_lt (waitsS c n d f hf hc k)
    obtain ⟨p, hpe⟩ : ∃ p, p = lastS (waitsS c n d f hf hc k) := ⟨_, rfl⟩
    rw [← hpe] at hp hcC
    rw [waitsS_length] at hlen
    have HV := Lib.hid (show satN (tsum c n d f (most - 1)) = satN (satN (tsum c n d f k) + satN (p * 0)) by
      rw [satN_add2, HMJ.out, Nat.add_sub_cancel, hlen]; rfl)
    have hjl : 0 < 1000 := by omega
    clear hlen hq hpe hA hB hC
    gi_wp2
    refine wpIn_wide.2 ?_
    go_quiet (first
      | (go_at_call 25; exact Calls.quiet_of_same ((mulS_any p 0 hp hjl _).mono fun _ _ h => ⟨h.1, h.2.symm⟩))
      | (go_at_call 22; exact Calls.quiet_of_same ((add_any _ _ (satN_lt _) (satN_lt _) _).mono fun _ _ h => ⟨h.1, h.2.symm⟩)))
    all_goals (go_wp2_with fail)
    all_goals gi_wp2
    all_goals (refine ⟨by simp, .inl ⟨_, _, rfl, run_takeDeferred (w := W.drewN _) hK, ?_⟩⟩)
    all_goals (exact ⟨_, results_tmp2 rfl _ _ _, by rw [HV.out]; rfl, (below_drewN hBel _).trans (belowK_b (w := w2) hww (W.drewN _) D _ _ hD hK rfl rfl)⟩)
end Go.Proofs.Yticcicdbncmfbaa
