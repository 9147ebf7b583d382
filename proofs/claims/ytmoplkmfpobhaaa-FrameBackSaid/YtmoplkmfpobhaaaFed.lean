/- Contracts of the readers' Feed: frame's and the document's. -/
import Derived.Test.YtmoplkmfpobhaaaSpt
import Derived.Test.YtmoplkmfpobhaaaChg
namespace Go.Proofs.Ytmoplkmfpobhaaa
open Go.RowKit

/-- A list of bytes' lists whose memory lies between lo and hi. -/
def LB (w : World) (lo hi : Nat) (v : Value) (ls : List (List UInt8)) : Prop :=
  ∃ us : List Value, w.ownsRow lo 22 1 v ls.length us ∧ (∀ g, v.ownBlock = some g → g < hi) ∧ us.length = ls.length ∧ ∀ (i : Nat) (u : Value) (l : List UInt8), us[i]? = some u → ls[i]? = some l → Bod w lo u l ∧ ∀ g, u.ownBlock = some g → g < hi
theorem LL.lb {w : World} {lo : Nat} {v : Value} {ls : List (List UInt8)} (h : LL w lo v ls) : LB w lo w.heap.size v ls := by
  obtain ⟨us, ho, hl, hu⟩ := h
  exact ⟨us, ho, fun g hg => (World.ownsRow.lt ho g hg).2, hl, fun i u l h1 h2 => ⟨hu i u l h1 h2, fun g hg => by
    obtain ⟨A, c, he, ho'⟩ := hu i u l h1 h2
    exact (World.ownsRow.lt ho' g hg).2⟩⟩
theorem LB.ll {w : World} {lo hi : Nat} {v : Value} {ls : List (List UInt8)} (h : LB w lo hi v ls) : LL w lo v ls := by
  obtain ⟨us, ho, _, hl, hu⟩ := h
  exact ⟨us, ho, hl, fun i u l h1 h2 => (hu i u l h1 h2).1⟩
theorem LB.chg {w w' : World} {lo hi : Nat} {v : Value} {ls : List (List UInt8)} (h : LB w lo hi v ls) {T : Nat → Prop} (hc : Chg T w w') (hT : ∀ k, lo ≤ k → k < hi → ¬ T k) : LB w' lo hi v ls := by
  obtain ⟨us, ho, hv, hl, hu⟩ := h
  refine ⟨us, own_chg ho hc (fun g hg => hT g (World.ownsRow.lt ho g hg).1 (hv g hg)), hv, hl, fun i u l h1 h2 => ?_⟩
  obtain ⟨⟨A, c, he, ho'⟩, h3⟩ := hu i u l h1 h2
  exact ⟨⟨A, c, he, own_chg ho' hc (fun g hg => hT g (World.ownsRow.lt ho' g hg).1 (h3 g hg))⟩, h3⟩
theorem LB.form {w : World} {lo hi : Nat} {v : Value} {ls : List (List UInt8)} (h : LB w lo hi v ls) : ∃ A c, v = .slice A ls.length c ∧ ls.length ≤ c := h.ll.form

theorem splN_used : ∀ (n : Nat) (l : List UInt8), (splN n l).2.1 ≤ l.length
  | 0, l => by simp [splN]
  | n + 1, l => by
    unfold splN
    by_cases h0 : l = []
    · rw [if_pos h0]; simp
    · rw [if_neg h0]
      by_cases he : (lookL l).2.2 = 0
      · have hu := used_pos he
        rw [if_pos he]
        have := splN_used n (l.drop (usedL l))
        rw [List.length_drop] at this
        dsimp only
        omega
      · rw [if_neg he]; simp
theorem spl_used (l : List UInt8) : (spl l).2.1 ≤ l.length := splN_used _ l
theorem splN_err : ∀ (n : Nat) (l : List UInt8), l.length ≤ 100000 → (splN n l).2.2 ≤ 8
  | 0, l, _ => by simp [splN]
  | n + 1, l, h => by
    unfold splN
    by_cases h0 : l = []
    · rw [if_pos h0]; simp
    · rw [if_neg h0]
      by_cases he : (lookL l).2.2 = 0
      · rw [if_pos he]
        exact splN_err n (l.drop (usedL l)) (by rw [List.length_drop]; omega)
      · rw [if_neg he]
        exact (lookL_le l h).2.2
theorem spl_err8 (l : List UInt8) (h : l.length ≤ 100000) : (spl l).2.2 ≤ 8 := splN_err _ l h

/-- What a reader says behind what is wrong. -/
def errAt (e : Nat) : Nat := if e = 4 then 0 else e

def Rdr (w : World) (br : Nat) (lv : Value) (tk er : Nat) : Prop := Blk w br 43 #[.bool true, lv, .int .i64 (tk : Nat), .int .i64 (er : Nat)]

theorem feed_err (br : Nat) (lv : Value) (tk er : Nat) (v : Value) (w : World) (h : Rdr w br lv tk er) (he : 0 < er) :
    Calls Try.prog 20 #[.pointer (some ⟨br, 0, none⟩), v] w fun e w' => e = .returned (.tuple #[.slice none 0 0, .int .i64 (er : Nat)]) ∧ ∃ m, w' = w.drewN m := by
  have c0 : w.cell? ⟨br, 0, none⟩ = some (.bool true) := h.cell 0
  have c3 : w.cell? ⟨br, 3, none⟩ = some (.int .i64 (er : Nat)) := h.cell 3
  have hne : ((er : Int) != 0) = true := by rw [bne_iff_ne]; omega
  clear h
  go_enter Try.func20, Try.ntmps20
  go_wp2_with fail
  go_quiet (fail)
  go_wp2_with fail
  go_ret2
  exact ⟨rfl, nq, rfl⟩

def FeedPost (w : World) (br : Nat) (lv : Value) (tk : Nat) (T : List UInt8) (e : Ending) (w' : World) : Prop :=
  ∃ v lv' mid, e = .returned (.tuple #[v, .int .i64 (errAt (spl T).2.2 : Nat)]) ∧ Rdr w' br lv' (tk + (spl T).2.1) (errAt (spl T).2.2) ∧ w'.ownsRow mid 5 1 lv' (T.drop (spl T).2.1).length (bcells (T.drop (spl T).2.1)) ∧
    LB w' w.heap.size mid v (spl T).1 ∧ w.heap.size ≤ mid ∧ mid ≤ w'.heap.size ∧ Chg (fun k => k = br ∨ lv.ownBlock = some k) w w'

theorem errAt_ne {e : Nat} (h : e ≠ 4) : errAt e = e := if_neg h
theorem errAt_4 : errAt 4 = 0 := rfl

set_option maxHeartbeats 4000000 in
theorem feed_ok (br : Nat) (lv : Value) (tk : Nat) (left : List UInt8) (base : Nat) (A : Option Addr) (n cap : Nat) (l : List UInt8) (w : World) (h : Rdr w br lv tk 0) (ho : w.ownsRow base 5 1 lv left.length (bcells left)) (hb : base ≤ w.heap.size)
    (hl : l.length = n) (hn : left.length + n ≤ 70000) (htk : tk ≤ 70000) (hr : Reads w w.heap.size 1 A n (bcells l)) :
    Calls Try.prog 20 #[.pointer (some ⟨br, 0, none⟩), .slice A n cap] w (FeedPost w br lv tk (left ++ l)) := by
  obtain ⟨i0, hi, hz0, hz1, hz2⟩ := info_parts Try.info5
  have HI := Lib.hid (And.intro hi (And.intro hz0 (And.intro hz1 hz2)))
  clear hi hz0 hz1 hz2
  obtain ⟨Av, cv, rfl, hcv⟩ := own_form ho
  have hnb : (Value.slice Av left.length cv).ownBlock ≠ some br := own_blk_ne ho h (by decide)
  have c0 : w.cell? ⟨br, 0, none⟩ = some (.bool true) := h.cell 0
  have c1 : w.cell? ⟨br, 1, none⟩ = some (.slice Av left.length cv) := h.cell 1
  have c3 : w.cell? ⟨br, 3, none⟩ = some (.int .i64 0) := h.cell 3
  have HH := Lib.hid h
  have HO := Lib.hid ho
  have HR := Lib.hid hr
  have HL := Lib.hid hl
  have hbr := h.lt
  have HNB := Lib.hid hnb
  clear h ho hr hl hnb
  obtain ⟨hi, hz0, hz1, hz2⟩ := HI.out
  go_enter Try.func20, Try.ntmps20
  go_wp2_with (at_builtin; refine wpList_append_any _ rfl (.tmp 29) (.tmp 30) 22 rfl base 5 i0 (.int .u8 0) 1 1 Try.underlying22 hi hz0 hz1 hz2 rfl (by decide) (.slice Av left.length cv) left.length (bcells left) rfl HO.out w.heap.size A n cap (bcells l) rfl HR.out (bcells_one _) (by unfold maxLen; omega) (by omega) hb ?_; intro v2 w2 ho2 hg2 hat2; obtain ⟨A2, c2, rfl, hc2⟩ := own_form ho2; have k2 := HH.out.grown hg2 (Ne.symm HNB.out); have d0 : w2.cell? ⟨br, 0, none⟩ = some (.bool true) := k2.cell 0; have d1 : w2.cell? ⟨br, 1, none⟩ = some (.slice Av left.length cv) := k2.cell 1; have d2 : w2.cell? ⟨br, 2, none⟩ = some (.int .i64 (tk : Nat)) := k2.cell 2; have d3 : w2.cell? ⟨br, 3, none⟩ = some (.int .i64 0) := k2.cell 3; have f1 := k2.frozen 1; have HK2 := Lib.hid (And.intro k2 (And.intro ho2 hg2)); clear k2 ho2 hg2 hat2)
  clear hi hz0 hz1 hz2 c0 c1 c3
  obtain ⟨-, ho2, hg2⟩ := HK2.out
  obtain ⟨T, hT⟩ : ∃ T, T = left ++ l := ⟨_, rfl⟩
  have HTT : Hid (left ++ l = T) := hT.symm
  have hTl : T.length = left.length + n := by rw [hT, List.length_append, HL.out]
  obtain ⟨m, hm⟩ : ∃ m, m = left.length + n := ⟨_, rfl⟩
  rw [← bcells_append, ← hT, ← hm] at ho2
  rw [← hm] at hc2 hTl hn ⊢
  rw [← hT]
  have hn2 : (Value.slice A2 m c2).ownBlock ≠ some br := own_blk_ne ho2 (HH.out.grown hg2 (Ne.symm HNB.out)) (by decide)
  obtain ⟨w3, hw3⟩ : ∃ w3, w3 = w2.setCell ⟨br, 1, none⟩ (.slice A2 m c2) := ⟨_, rfl⟩
  rw [← hw3]
  have hk3 : Blk w3 br 43 #[.bool true, .slice A2 m c2, .int .i64 (tk : Nat), .int .i64 0] := by rw [hw3]; exact (HH.out.grown hg2 (Ne.symm HNB.out)).set_ 1 _
  have ho3 : w3.ownsRow base 5 1 (.slice A2 m c2) m (bcells T) := by rw [hw3]; exact own_chg ho2 ((Chg.refl (fun k => k = br) w2).setCell (p := ⟨br, 1, none⟩) rfl _) (fun g hg h => hn2 (by rw [hg, h]))
  have hc3 : Chg (fun k => k = br ∨ (Value.slice Av left.length cv).ownBlock = some k) w w3 := by rw [hw3]; exact (Chg.of_grown hg2 (fun r e => .inr e)).setCell (p := ⟨br, 1, none⟩) (.inl rfl) _
  have hTR := Reads.of_own ho3
  clear d0 d1 d2 d3 f1 HK2 ho2 hg2 hw3 hn2 hT hm HH HO HR HL HNB hcv
  refine (split_any A2 m c2 T w3 hTl hn hc2 hTR).mono ?_
  rintro e w4 ⟨v4, rfl, hll, hb4⟩
  have HK4 := Lib.hid (hk3.below hb4 hk3.lt)
  have hs3 := hc3.size
  have hs4 := hb4.size
  have HLB := Lib.hid (hll.mono hs3).lb
  have HC4 := Lib.hid (hc3.trans (.of_below hb4))
  have HTR := Lib.hid ((hTR.below hb4).more hb4.size)
  have hus := spl_used T
  have her := spl_err8 T (by omega)
  have HTL := Lib.hid hTl
  rw [hTl] at hus
  have ho4 := own_below ho3 hb4
  have HKB := Lib.hid hk3.lt
  clear hll hb4 hc3 hTR hk3 ho3 hTl
  generalize hg1 : (spl T).1 = bs at *
  generalize hg2 : (spl T).2.1 = us at *
  generalize hg3 : (spl T).2.2 = er at *
  have HSP : Hid (spl T = (bs, us, er)) := by show spl T = _; rw [← hg1, ← hg2, ← hg3]
  clear hg1 hg2 hg3
  have hcase : (A2 = none ∧ m = 0 ∧ c2 = 0 ∧ us = 0) ∨ ∃ g, A2 = some ⟨g, 0, none⟩ ∧ m ≤ c2 := by
    rcases ho4.2 with ⟨hv, h0⟩ | ⟨g, cap', cur, hv, _, _, hc, _⟩
    · injection hv with h1 h2 h3
      exact .inl ⟨h1, h2, h3, by omega⟩
    · injection hv with h1 h2 h3
      exact .inr ⟨g, h1, by omega⟩
  clear ho4
  have hbr4 : br < w4.heap.size := by have := HKB.out; omega
  rcases hcase with ⟨rfl, rfl, rfl, rfl⟩ | ⟨g, rfl, hgc⟩
  · have HRD : Hid (Reads w4 w4.heap.size 1 none 0 (bcells (T.drop 0))) := HTR.out
    have HOw : Hid ((w4.alloc (.cells #[] 5)).ownsRow w4.heap.size 5 1 (.slice (some ⟨w4.heap.size, 0, none⟩) 0 0) 0 (bcells [])) :=
      ⟨rfl, .inr ⟨w4.heap.size, 0, #[], rfl, Nat.le_refl _, heap_alloc_new _ _, by omega, by unfold maxLen; omega, rfl, rfl⟩⟩
    have HRw := Lib.hid (HRD.out.alloc (Nat.le_refl _) (.cells #[] 5))
    obtain ⟨hi, hz0, hz1, hz2⟩ := HI.out
    have d0 : w4.cell? ⟨br, 0, none⟩ = some (.bool true) := HK4.out.cell 0
    have d1 : w4.cell? ⟨br, 1, none⟩ = some (.slice none 0 0) := HK4.out.cell 1
    by_cases he : er = 4
    · subst he
      go_wp2_with (at_builtin; refine wpList_append_any _ rfl (.tmp 44) (.tmp 50) 22 rfl w4.heap.size 5 i0 (.int .u8 0) 1 1 Try.underlying22 hi hz0 hz1 hz2 rfl (by decide) (.slice (some ⟨w4.heap.size, 0, none⟩) 0 0) 0 (bcells []) rfl HOw.out w4.heap.size none 0 0 (bcells (T.drop 0)) rfl HRw.out (bcells_one _) (by unfold maxLen; omega) (by omega) (by simp) ?_; intro v5 w5 ho5 hg5 hat5; rw [← bcells_append, List.nil_append, show 0 + 0 = (T.drop 0).length from by rw [List.length_drop, HTL.out]] at ho5; obtain ⟨A5, c5, rfl, hc5⟩ := own_form ho5; have k5 := (HK4.out.alloc (.cells #[] 5)).grown hg5 (fun e => by have := (World.ownsRow.lt HOw.out br e.symm).1; omega); have e1 : w5.cell? ⟨br, 1, none⟩ = some (.slice none 0 0) := k5.cell 1; have e2 : w5.cell? ⟨br, 2, none⟩ = some (.int .i64 (tk : Nat)) := k5.cell 2; have e3 : w5.cell? ⟨br, 3, none⟩ = some (.int .i64 0) := k5.cell 3; have e0 : w5.cell? ⟨br, 0, none⟩ = some (.bool true) := k5.cell 0; have f1 := k5.frozen 1; have f2 := k5.frozen 2; have f3 := k5.frozen 3; have HB5 := Lib.hid k5; have HK5 := Lib.hid (And.intro ho5 hg5); clear ho5 hg5 hat5 k5)
      clear hi hz0 hz1 hz2
      go_quiet (fail)
      go_wp2_with fail
      go_ret2
      obtain ⟨ho5, hg5⟩ := HK5.out
      show FeedPost _ _ _ _ (left ++ l) _ _
      rw [HTT.out]
      unfold FeedPost
      rw [HSP.out]
      dsimp only
      refine ⟨v4, .slice A5 T.length c5, w4.heap.size, rfl, ?_, ?_, ?_, by omega, ?_, ?_⟩
      · exact ((HB5.out.set_ 1 _).set_ 2 _).drewN _
      · rw [List.length_drop] at ho5 ⊢
        exact own_chg ho5 ((((Chg.refl (fun k => k = br) w5).setCell (p := ⟨br, 1, none⟩) rfl _).setCell (p := ⟨br, 2, none⟩) rfl _).drewN nq) (fun g hg h => by have := (World.ownsRow.lt ho5 g hg).1; omega)
      · exact (HLB.out.chg (T := fun k => k = br ∨ w4.heap.size ≤ k) ((((((Chg.refl _ w4).alloc _).trans (.of_grown hg5 (fun r e => .inr (World.ownsRow.lt HOw.out r e).1))).setCell (p := ⟨br, 1, none⟩) (.inl rfl) _).setCell (p := ⟨br, 2, none⟩) (.inl rfl) _).drewN nq) (fun k h1 h2 h3 => by rcases h3 with h3 | h3 <;> omega))
      · have := hg5.size; simp [World.setCell, World.drewN] at this ⊢; omega
      · refine (((HC4.out.mono (T' := fun k => (k = br ∨ (Value.slice Av left.length cv).ownBlock = some k) ∨ w4.heap.size ≤ k) (fun k h => .inl h)).trans ((((((Chg.refl _ w4).alloc _).trans (.of_grown hg5 (fun r e => .inr (World.ownsRow.lt HOw.out r e).1))).setCell (p := ⟨br, 1, none⟩) (.inl (.inl rfl)) _).setCell (p := ⟨br, 2, none⟩) (.inl (.inl rfl)) _).drewN nq))).old (fun k hk h => ?_)
        rcases h with h | h
        · exact h
        · omega
    · have hne : ((er : Int) != 4) = true := by rw [bne_iff_ne]; omega
      have HEA := Lib.hid (errAt_ne he)
      clear he
      go_wp2_with (at_builtin; refine wpList_append_any _ rfl (.tmp 44) (.tmp 50) 22 rfl w4.heap.size 5 i0 (.int .u8 0) 1 1 Try.underlying22 hi hz0 hz1 hz2 rfl (by decide) (.slice (some ⟨w4.heap.size, 0, none⟩) 0 0) 0 (bcells []) rfl HOw.out w4.heap.size none 0 0 (bcells (T.drop 0)) rfl HRw.out (bcells_one _) (by unfold maxLen; omega) (by omega) (by simp) ?_; intro v5 w5 ho5 hg5 hat5; rw [← bcells_append, List.nil_append, show 0 + 0 = (T.drop 0).length from by rw [List.length_drop, HTL.out]] at ho5; obtain ⟨A5, c5, rfl, hc5⟩ := own_form ho5; have k5 := (HK4.out.alloc (.cells #[] 5)).grown hg5 (fun e => by have := (World.ownsRow.lt HOw.out br e.symm).1; omega); have e1 : w5.cell? ⟨br, 1, none⟩ = some (.slice none 0 0) := k5.cell 1; have e2 : w5.cell? ⟨br, 2, none⟩ = some (.int .i64 (tk : Nat)) := k5.cell 2; have e3 : w5.cell? ⟨br, 3, none⟩ = some (.int .i64 0) := k5.cell 3; have e0 : w5.cell? ⟨br, 0, none⟩ = some (.bool true) := k5.cell 0; have f1 := k5.frozen 1; have f2 := k5.frozen 2; have f3 := k5.frozen 3; have HB5 := Lib.hid k5; have HK5 := Lib.hid (And.intro ho5 hg5); clear ho5 hg5 hat5 k5)
      clear hi hz0 hz1 hz2
      go_quiet (fail)
      go_wp2_with fail
      go_ret2
      obtain ⟨ho5, hg5⟩ := HK5.out
      show FeedPost _ _ _ _ (left ++ l) _ _
      rw [HTT.out]
      unfold FeedPost
      rw [HSP.out]
      dsimp only
      refine ⟨v4, .slice A5 T.length c5, w4.heap.size, by rw [HEA.out]; rfl, ?_, ?_, ?_, by omega, ?_, ?_⟩
      · rw [HEA.out]
        exact (((HB5.out.set_ 1 _).set_ 2 _).set_ 3 _).drewN _
      · rw [List.length_drop] at ho5 ⊢
        exact own_chg ho5 (((((Chg.refl (fun k => k = br) w5).setCell (p := ⟨br, 1, none⟩) rfl _).setCell (p := ⟨br, 2, none⟩) rfl _).setCell (p := ⟨br, 3, none⟩) rfl _).drewN nq) (fun g hg h => by have := (World.ownsRow.lt ho5 g hg).1; omega)
      · exact (HLB.out.chg (T := fun k => k = br ∨ w4.heap.size ≤ k) (((((((Chg.refl _ w4).alloc _).trans (.of_grown hg5 (fun r e => .inr (World.ownsRow.lt HOw.out r e).1))).setCell (p := ⟨br, 1, none⟩) (.inl rfl) _).setCell (p := ⟨br, 2, none⟩) (.inl rfl) _).setCell (p := ⟨br, 3, none⟩) (.inl rfl) _).drewN nq) (fun k h1 h2 h3 => by rcases h3 with h3 | h3 <;> omega))
      · have := hg5.size; simp [World.setCell, World.drewN] at this ⊢; omega
      · refine (((HC4.out.mono (T' := fun k => (k = br ∨ (Value.slice Av left.length cv).ownBlock = some k) ∨ w4.heap.size ≤ k) (fun k h => .inl h)).trans (((((((Chg.refl _ w4).alloc _).trans (.of_grown hg5 (fun r e => .inr (World.ownsRow.lt HOw.out r e).1))).setCell (p := ⟨br, 1, none⟩) (.inl (.inl rfl)) _).setCell (p := ⟨br, 2, none⟩) (.inl (.inl rfl)) _).setCell (p := ⟨br, 3, none⟩) (.inl (.inl rfl)) _).drewN nq))).old (fun k hk h => ?_)
        rcases h with h | h
        · exact h
        · omega
  · by_cases hcu : c2 = us
    · have hum : us = m := by omega
      subst hum
      subst hcu
      have HRD : Hid (Reads w4 w4.heap.size 1 (some ⟨g, 0, none⟩) 0 (bcells (T.drop c2))) := ⟨by rw [bcells_length, List.length_drop, HTL.out]; omega, fun h => absurd h (by omega)⟩
      have HOw : Hid ((w4.alloc (.cells #[] 5)).ownsRow w4.heap.size 5 1 (.slice (some ⟨w4.heap.size, 0, none⟩) 0 0) 0 (bcells [])) :=
        ⟨rfl, .inr ⟨w4.heap.size, 0, #[], rfl, Nat.le_refl _, heap_alloc_new _ _, by omega, by unfold maxLen; omega, rfl, rfl⟩⟩
      have HRw := Lib.hid (HRD.out.alloc (Nat.le_refl _) (.cells #[] 5))
      obtain ⟨hi, hz0, hz1, hz2⟩ := HI.out
      have d0 : w4.cell? ⟨br, 0, none⟩ = some (.bool true) := HK4.out.cell 0
      have d1 : w4.cell? ⟨br, 1, none⟩ = some (.slice (some ⟨g, 0, none⟩) c2 c2) := HK4.out.cell 1
      by_cases he : er = 4
      · subst he
        go_wp2_with (at_builtin; refine wpList_append_any _ rfl (.tmp 44) (.tmp 50) 22 rfl w4.heap.size 5 i0 (.int .u8 0) 1 1 Try.underlying22 hi hz0 hz1 hz2 rfl (by decide) (.slice (some ⟨w4.heap.size, 0, none⟩) 0 0) 0 (bcells []) rfl HOw.out w4.heap.size (some ⟨g, 0, none⟩) 0 0 (bcells (T.drop c2)) rfl HRw.out (bcells_one _) (by unfold maxLen; omega) (by omega) (by simp) ?_; intro v5 w5 ho5 hg5 hat5; rw [← bcells_append, List.nil_append, show 0 + 0 = (T.drop c2).length from by rw [List.length_drop, HTL.out]; omega] at ho5; obtain ⟨A5, c5, rfl, hc5⟩ := own_form ho5; have k5 := (HK4.out.alloc (.cells #[] 5)).grown hg5 (fun e => by have := (World.ownsRow.lt HOw.out br e.symm).1; omega); have e1 : w5.cell? ⟨br, 1, none⟩ = some (.slice (some ⟨g, 0, none⟩) c2 c2) := k5.cell 1; have e2 : w5.cell? ⟨br, 2, none⟩ = some (.int .i64 (tk : Nat)) := k5.cell 2; have e3 : w5.cell? ⟨br, 3, none⟩ = some (.int .i64 0) := k5.cell 3; have e0 : w5.cell? ⟨br, 0, none⟩ = some (.bool true) := k5.cell 0; have f1 := k5.frozen 1; have f2 := k5.frozen 2; have f3 := k5.frozen 3; have HB5 := Lib.hid k5; have HK5 := Lib.hid (And.intro ho5 hg5); clear ho5 hg5 hat5 k5)
        clear hi hz0 hz1 hz2
        go_quiet (fail)
        go_wp2_with fail
        go_ret2
        obtain ⟨ho5, hg5⟩ := HK5.out
        show FeedPost _ _ _ _ (left ++ l) _ _
        rw [HTT.out]
        unfold FeedPost
        rw [HSP.out]
        dsimp only
        refine ⟨v4, .slice A5 (T.length - c2) c5, w4.heap.size, rfl, ?_, ?_, ?_, by omega, ?_, ?_⟩
        · exact ((HB5.out.set_ 1 _).set_ 2 _).drewN _
        · rw [List.length_drop] at ho5 ⊢
          exact own_chg ho5 ((((Chg.refl (fun k => k = br) w5).setCell (p := ⟨br, 1, none⟩) rfl _).setCell (p := ⟨br, 2, none⟩) rfl _).drewN nq) (fun g hg h => by have := (World.ownsRow.lt ho5 g hg).1; omega)
        · exact (HLB.out.chg (T := fun k => k = br ∨ w4.heap.size ≤ k) ((((((Chg.refl _ w4).alloc _).trans (.of_grown hg5 (fun r e => .inr (World.ownsRow.lt HOw.out r e).1))).setCell (p := ⟨br, 1, none⟩) (.inl rfl) _).setCell (p := ⟨br, 2, none⟩) (.inl rfl) _).drewN nq) (fun k h1 h2 h3 => by rcases h3 with h3 | h3 <;> omega))
        · have := hg5.size; simp [World.setCell, World.drewN] at this ⊢; omega
        · refine (((HC4.out.mono (T' := fun k => (k = br ∨ (Value.slice Av left.length cv).ownBlock = some k) ∨ w4.heap.size ≤ k) (fun k h => .inl h)).trans ((((((Chg.refl _ w4).alloc _).trans (.of_grown hg5 (fun r e => .inr (World.ownsRow.lt HOw.out r e).1))).setCell (p := ⟨br, 1, none⟩) (.inl (.inl rfl)) _).setCell (p := ⟨br, 2, none⟩) (.inl (.inl rfl)) _).drewN nq))).old (fun k hk h => ?_)
          rcases h with h | h
          · exact h
          · omega
      · have hne : ((er : Int) != 4) = true := by rw [bne_iff_ne]; omega
        have HEA := Lib.hid (errAt_ne he)
        clear he
        go_wp2_with (at_builtin; refine wpList_append_any _ rfl (.tmp 44) (.tmp 50) 22 rfl w4.heap.size 5 i0 (.int .u8 0) 1 1 Try.underlying22 hi hz0 hz1 hz2 rfl (by decide) (.slice (some ⟨w4.heap.size, 0, none⟩) 0 0) 0 (bcells []) rfl HOw.out w4.heap.size (some ⟨g, 0, none⟩) 0 0 (bcells (T.drop c2)) rfl HRw.out (bcells_one _) (by unfold maxLen; omega) (by omega) (by simp) ?_; intro v5 w5 ho5 hg5 hat5; rw [← bcells_append, List.nil_append, show 0 + 0 = (T.drop c2).length from by rw [List.length_drop, HTL.out]; omega] at ho5; obtain ⟨A5, c5, rfl, hc5⟩ := own_form ho5; have k5 := (HK4.out.alloc (.cells #[] 5)).grown hg5 (fun e => by have := (World.ownsRow.lt HOw.out br e.symm).1; omega); have e1 : w5.cell? ⟨br, 1, none⟩ = some (.slice (some ⟨g, 0, none⟩) c2 c2) := k5.cell 1; have e2 : w5.cell? ⟨br, 2, none⟩ = some (.int .i64 (tk : Nat)) := k5.cell 2; have e3 : w5.cell? ⟨br, 3, none⟩ = some (.int .i64 0) := k5.cell 3; have e0 : w5.cell? ⟨br, 0, none⟩ = some (.bool true) := k5.cell 0; have f1 := k5.frozen 1; have f2 := k5.frozen 2; have f3 := k5.frozen 3; have HB5 := Lib.hid k5; have HK5 := Lib.hid (And.intro ho5 hg5); clear ho5 hg5 hat5 k5)
        clear hi hz0 hz1 hz2
        go_quiet (fail)
        go_wp2_with fail
        go_ret2
        obtain ⟨ho5, hg5⟩ := HK5.out
        show FeedPost _ _ _ _ (left ++ l) _ _
        rw [HTT.out]
        unfold FeedPost
        rw [HSP.out]
        dsimp only
        refine ⟨v4, .slice A5 (T.length - c2) c5, w4.heap.size, by rw [HEA.out]; rfl, ?_, ?_, ?_, by omega, ?_, ?_⟩
        · rw [HEA.out]
          exact (((HB5.out.set_ 1 _).set_ 2 _).set_ 3 _).drewN _
        · rw [List.length_drop] at ho5 ⊢
          exact own_chg ho5 (((((Chg.refl (fun k => k = br) w5).setCell (p := ⟨br, 1, none⟩) rfl _).setCell (p := ⟨br, 2, none⟩) rfl _).setCell (p := ⟨br, 3, none⟩) rfl _).drewN nq) (fun g hg h => by have := (World.ownsRow.lt ho5 g hg).1; omega)
        · exact (HLB.out.chg (T := fun k => k = br ∨ w4.heap.size ≤ k) (((((((Chg.refl _ w4).alloc _).trans (.of_grown hg5 (fun r e => .inr (World.ownsRow.lt HOw.out r e).1))).setCell (p := ⟨br, 1, none⟩) (.inl rfl) _).setCell (p := ⟨br, 2, none⟩) (.inl rfl) _).setCell (p := ⟨br, 3, none⟩) (.inl rfl) _).drewN nq) (fun k h1 h2 h3 => by rcases h3 with h3 | h3 <;> omega))
        · have := hg5.size; simp [World.setCell, World.drewN] at this ⊢; omega
        · refine (((HC4.out.mono (T' := fun k => (k = br ∨ (Value.slice Av left.length cv).ownBlock = some k) ∨ w4.heap.size ≤ k) (fun k h => .inl h)).trans (((((((Chg.refl _ w4).alloc _).trans (.of_grown hg5 (fun r e => .inr (World.ownsRow.lt HOw.out r e).1))).setCell (p := ⟨br, 1, none⟩) (.inl (.inl rfl)) _).setCell (p := ⟨br, 2, none⟩) (.inl (.inl rfl)) _).setCell (p := ⟨br, 3, none⟩) (.inl (.inl rfl)) _).drewN nq))).old (fun k hk h => ?_)
          rcases h with h | h
          · exact h
          · omega
    · have HTK : Hid (T.take m = T) := List.take_of_length_le (by rw [HTL.out]; exact Nat.le_refl _)
      have HRD : Hid (Reads w4 w4.heap.size 1 (some ⟨g, us, none⟩) (m - us) (bcells (T.drop us))) := by
        have h := HTR.out.sub us m (by omega) (Nat.le_refl _)
        rwa [Nat.zero_add, HTK.out] at h
      have HOw : Hid ((w4.alloc (.cells #[] 5)).ownsRow w4.heap.size 5 1 (.slice (some ⟨w4.heap.size, 0, none⟩) 0 0) 0 (bcells [])) :=
        ⟨rfl, .inr ⟨w4.heap.size, 0, #[], rfl, Nat.le_refl _, heap_alloc_new _ _, by omega, by unfold maxLen; omega, rfl, rfl⟩⟩
      have HRw := Lib.hid (HRD.out.alloc (Nat.le_refl _) (.cells #[] 5))
      obtain ⟨hi, hz0, hz1, hz2⟩ := HI.out
      have d0 : w4.cell? ⟨br, 0, none⟩ = some (.bool true) := HK4.out.cell 0
      have d1 : w4.cell? ⟨br, 1, none⟩ = some (.slice (some ⟨g, 0, none⟩) m c2) := HK4.out.cell 1
      by_cases he : er = 4
      · subst he
        go_wp2_with (at_builtin; refine wpList_append_any _ rfl (.tmp 44) (.tmp 50) 22 rfl w4.heap.size 5 i0 (.int .u8 0) 1 1 Try.underlying22 hi hz0 hz1 hz2 rfl (by decide) (.slice (some ⟨w4.heap.size, 0, none⟩) 0 0) 0 (bcells []) rfl HOw.out w4.heap.size (some ⟨g, us, none⟩) (m - us) (c2 - us) (bcells (T.drop us)) rfl HRw.out (bcells_one _) (by unfold maxLen; omega) (by omega) (by simp) ?_; intro v5 w5 ho5 hg5 hat5; rw [← bcells_append, List.nil_append, show 0 + (m - us) = (T.drop us).length from by rw [List.length_drop, HTL.out]; omega] at ho5; obtain ⟨A5, c5, rfl, hc5⟩ := own_form ho5; have k5 := (HK4.out.alloc (.cells #[] 5)).grown hg5 (fun e => by have := (World.ownsRow.lt HOw.out br e.symm).1; omega); have e1 : w5.cell? ⟨br, 1, none⟩ = some (.slice (some ⟨g, 0, none⟩) m c2) := k5.cell 1; have e2 : w5.cell? ⟨br, 2, none⟩ = some (.int .i64 (tk : Nat)) := k5.cell 2; have e3 : w5.cell? ⟨br, 3, none⟩ = some (.int .i64 0) := k5.cell 3; have e0 : w5.cell? ⟨br, 0, none⟩ = some (.bool true) := k5.cell 0; have f1 := k5.frozen 1; have f2 := k5.frozen 2; have f3 := k5.frozen 3; have HB5 := Lib.hid k5; have HK5 := Lib.hid (And.intro ho5 hg5); clear ho5 hg5 hat5 k5)
        clear hi hz0 hz1 hz2
        go_quiet (fail)
        go_wp2_with fail
        go_ret2
        obtain ⟨ho5, hg5⟩ := HK5.out
        show FeedPost _ _ _ _ (left ++ l) _ _
        rw [HTT.out]
        unfold FeedPost
        rw [HSP.out]
        dsimp only
        refine ⟨v4, .slice A5 (T.length - us) c5, w4.heap.size, rfl, ?_, ?_, ?_, by omega, ?_, ?_⟩
        · exact ((HB5.out.set_ 1 _).set_ 2 _).drewN _
        · rw [List.length_drop] at ho5 ⊢
          exact own_chg ho5 ((((Chg.refl (fun k => k = br) w5).setCell (p := ⟨br, 1, none⟩) rfl _).setCell (p := ⟨br, 2, none⟩) rfl _).drewN nq) (fun g hg h => by have := (World.ownsRow.lt ho5 g hg).1; omega)
        · exact (HLB.out.chg (T := fun k => k = br ∨ w4.heap.size ≤ k) ((((((Chg.refl _ w4).alloc _).trans (.of_grown hg5 (fun r e => .inr (World.ownsRow.lt HOw.out r e).1))).setCell (p := ⟨br, 1, none⟩) (.inl rfl) _).setCell (p := ⟨br, 2, none⟩) (.inl rfl) _).drewN nq) (fun k h1 h2 h3 => by rcases h3 with h3 | h3 <;> omega))
        · have := hg5.size; simp [World.setCell, World.drewN] at this ⊢; omega
        · refine (((HC4.out.mono (T' := fun k => (k = br ∨ (Value.slice Av left.length cv).ownBlock = some k) ∨ w4.heap.size ≤ k) (fun k h => .inl h)).trans ((((((Chg.refl _ w4).alloc _).trans (.of_grown hg5 (fun r e => .inr (World.ownsRow.lt HOw.out r e).1))).setCell (p := ⟨br, 1, none⟩) (.inl (.inl rfl)) _).setCell (p := ⟨br, 2, none⟩) (.inl (.inl rfl)) _).drewN nq))).old (fun k hk h => ?_)
          rcases h with h | h
          · exact h
          · omega
      · have hne : ((er : Int) != 4) = true := by rw [bne_iff_ne]; omega
        have HEA := Lib.hid (errAt_ne he)
        clear he
        go_wp2_with (at_builtin; refine wpList_append_any _ rfl (.tmp 44) (.tmp 50) 22 rfl w4.heap.size 5 i0 (.int .u8 0) 1 1 Try.underlying22 hi hz0 hz1 hz2 rfl (by decide) (.slice (some ⟨w4.heap.size, 0, none⟩) 0 0) 0 (bcells []) rfl HOw.out w4.heap.size (some ⟨g, us, none⟩) (m - us) (c2 - us) (bcells (T.drop us)) rfl HRw.out (bcells_one _) (by unfold maxLen; omega) (by omega) (by simp) ?_; intro v5 w5 ho5 hg5 hat5; rw [← bcells_append, List.nil_append, show 0 + (m - us) = (T.drop us).length from by rw [List.length_drop, HTL.out]; omega] at ho5; obtain ⟨A5, c5, rfl, hc5⟩ := own_form ho5; have k5 := (HK4.out.alloc (.cells #[] 5)).grown hg5 (fun e => by have := (World.ownsRow.lt HOw.out br e.symm).1; omega); have e1 : w5.cell? ⟨br, 1, none⟩ = some (.slice (some ⟨g, 0, none⟩) m c2) := k5.cell 1; have e2 : w5.cell? ⟨br, 2, none⟩ = some (.int .i64 (tk : Nat)) := k5.cell 2; have e3 : w5.cell? ⟨br, 3, none⟩ = some (.int .i64 0) := k5.cell 3; have e0 : w5.cell? ⟨br, 0, none⟩ = some (.bool true) := k5.cell 0; have f1 := k5.frozen 1; have f2 := k5.frozen 2; have f3 := k5.frozen 3; have HB5 := Lib.hid k5; have HK5 := Lib.hid (And.intro ho5 hg5); clear ho5 hg5 hat5 k5)
        clear hi hz0 hz1 hz2
        go_quiet (fail)
        go_wp2_with fail
        go_ret2
        obtain ⟨ho5, hg5⟩ := HK5.out
        show FeedPost _ _ _ _ (left ++ l) _ _
        rw [HTT.out]
        unfold FeedPost
        rw [HSP.out]
        dsimp only
        refine ⟨v4, .slice A5 (T.length - us) c5, w4.heap.size, by rw [HEA.out]; rfl, ?_, ?_, ?_, by omega, ?_, ?_⟩
        · rw [HEA.out]
          exact (((HB5.out.set_ 1 _).set_ 2 _).set_ 3 _).drewN _
        · rw [List.length_drop] at ho5 ⊢
          exact own_chg ho5 (((((Chg.refl (fun k => k = br) w5).setCell (p := ⟨br, 1, none⟩) rfl _).setCell (p := ⟨br, 2, none⟩) rfl _).setCell (p := ⟨br, 3, none⟩) rfl _).drewN nq) (fun g hg h => by have := (World.ownsRow.lt ho5 g hg).1; omega)
        · exact (HLB.out.chg (T := fun k => k = br ∨ w4.heap.size ≤ k) (((((((Chg.refl _ w4).alloc _).trans (.of_grown hg5 (fun r e => .inr (World.ownsRow.lt HOw.out r e).1))).setCell (p := ⟨br, 1, none⟩) (.inl rfl) _).setCell (p := ⟨br, 2, none⟩) (.inl rfl) _).setCell (p := ⟨br, 3, none⟩) (.inl rfl) _).drewN nq) (fun k h1 h2 h3 => by rcases h3 with h3 | h3 <;> omega))
        · have := hg5.size; simp [World.setCell, World.drewN] at this ⊢; omega
        · refine (((HC4.out.mono (T' := fun k => (k = br ∨ (Value.slice Av left.length cv).ownBlock = some k) ∨ w4.heap.size ≤ k) (fun k h => .inl h)).trans (((((((Chg.refl _ w4).alloc _).trans (.of_grown hg5 (fun r e => .inr (World.ownsRow.lt HOw.out r e).1))).setCell (p := ⟨br, 1, none⟩) (.inl (.inl rfl)) _).setCell (p := ⟨br, 2, none⟩) (.inl (.inl rfl)) _).setCell (p := ⟨br, 3, none⟩) (.inl (.inl rfl)) _).drewN nq))).old (fun k hk h => ?_)
          rcases h with h | h
          · exact h
          · omega
end Go.Proofs.Ytmoplkmfpobhaaa
