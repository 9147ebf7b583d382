/- The walk of prompterlaw20.RetryDrawn: it returns true. -/
import Derived.Test.YticcicdbncmfbaaRfw
import Derived.Test.YticcicdbncmfbaaDrr
namespace Go.Proofs.Yticcicdbncmfbaa
open Go.RowKit

theorem InRow.alloc {w : World} {A : Option Addr} {L K : Nat} {l : List Int} (h : InRow w A L K l) (o : Obj) : InRow (w.alloc o) A L K l :=
  ⟨(h.1.alloc (Nat.le_refl _) o).more (by simp), h.2⟩
theorem InRow.below {w w' : World} {A : Option Addr} {L K : Nat} {l : List Int} (h : InRow w A L K l) (hb : Below w.heap.size w w') : InRow w' A L K l :=
  ⟨(h.1.below hb).more hb.size, h.2⟩

theorem drawn_both (F C N D M S : Int) (A A' : Option Addr) (L K K' : Nat) (wait : Int) (draw : Nat) (hL : L ≤ 9223372036854775807) (hw : wait < 9223372036854775808) (hd : draw < 4294967296) :
    ∃ v e : Int, (∀ w, Calls Try.prog 17 #[.agg #[.int .i64 F, .int .i64 C, .int .i64 N, .int .i64 D, .int .i64 M, .int .i64 S, .slice A' L K'], .int .i64 wait, .int .u32 draw] w fun x w' => x = .returned (.tuple #[.int .i64 v, .int .i64 e]) ∧ Below w.heap.size w w') ∧
      (∀ w, Calls Try.prog 18 #[.agg #[.int .i64 F, .int .i64 C, .int .i64 N, .int .i64 D, .int .i64 M, .int .i64 S, .slice A L K], .int .i64 wait, .int .u32 draw] w fun x w' => x = .returned (.tuple #[.int .i64 v, .int .i64 e]) ∧ Below w.heap.size w w') := by
  by_cases hm : May F C N D M S L ∧ 0 ≤ wait
  · obtain ⟨h1, h2⟩ := hm
    obtain ⟨wn, rfl⟩ : ∃ n : Nat, wait = n := ⟨wait.toNat, by omega⟩
    have h3 : 0 ≤ S := by obtain ⟨_, _, _, _, _, _, _, h, _⟩ := h1; exact h
    obtain ⟨sn, rfl⟩ : ∃ n : Nat, S = n := ⟨S.toNat, by omega⟩
    exact ⟨_, _, fun w => drawn_ok F C N D M sn A' L K' wn draw w h1 (by omega) hd, fun w => refDrawn_ok F C N D M sn A L K wn draw w h1 (by omega) hd⟩
  · exact ⟨_, _, fun w => drawn_bad F C N D M S A' L K' wait _ w hL hm, fun w => refDrawn_bad F C N D M S A L K wait _ w hL hm⟩

set_option maxHeartbeats 400000 in
theorem drawn_walk (F C N D M S : Int) (A : Option Addr) (L K : Nat) (l : List Int) (wait : Int) (draw : Nat) (w : World) (hrow : InRow w A L K l) (hw : wait < 9223372036854775808) (hd : draw < 4294967296) :
    Calls Try.prog 4 #[.agg #[.int .i64 F, .int .i64 C, .int .i64 N, .int .i64 D, .int .i64 M, .int .i64 S, .slice A L K], .int .i64 wait, .int .u32 draw] w fun e w' => e = .returned (.bool true) ∧ Below w.heap.size w w' := by
  have hL : L ≤ 9223372036854775807 := hrow.2.2.2.1
  have HR := Lib.hid hrow
  clear hrow
  go_enter Try.func4, Try.ntmps4
  go_wp2_with fail
  refine (policy_any F C N D M S A L K l _ (HR.out.alloc _)).mono ?_
  rintro e w1 ⟨A', K', rfl, _, hb1⟩
  have HX1 := Lib.hid ((Blk.new w 24 #[.int .i64 F, .int .i64 C, .int .i64 N, .int .i64 D, .int .i64 M, .int .i64 S, .slice A L K]).below hb1 (by simp))
  have HB1 := Lib.hid (show Below w.heap.size w w1 from ((Below.refl _ _).alloc (Nat.le_refl _) _).trans (hb1.mono (by simp)))
  have hs1 : w.heap.size < w1.heap.size := by have := hb1.size; simp at this; omega
  clear hb1
  obtain ⟨v, er, c1, c2⟩ := drawn_both F C N D M S A A' L K K' wait draw hL hw hd
  have HC1 := Lib.hid c1
  have HC2 := Lib.hid c2
  clear c1 c2
  go_wp2_with fail
  refine (HC1.out w1).mono ?_
  rintro e w2 ⟨rfl, hb2⟩
  have HX2 := Lib.hid (HX1.out.below hb2 hs1)
  have HB2 := Lib.hid (HB1.out.trans (hb2.mono HB1.out.size))
  clear hb2 HX1 HB1
  go_wp2_with (refine wpList_load_row rfl 24 _ rfl w.heap.size rfl 24 _ (0, 0) _ HX2.out Try.underlying24 rfl (by kernel_rfl) ?_)
  refine (HC2.out w2).mono ?_
  rintro e w3 ⟨rfl, hb3⟩
  have HB3 := Lib.hid (HB2.out.trans (hb3.mono HB2.out.size))
  clear hb3
  go_wp2_with fail
  refine (awake_any w3).mono ?_
  rintro e w4 ⟨rfl, hb4⟩
  have HB4 := Lib.hid (HB3.out.trans (hb4.mono HB3.out.size))
  clear hb4
  go_wp2_with fail
  go_ret
  exact ⟨rfl, HB4.out⟩
end Go.Proofs.Yticcicdbncmfbaa
