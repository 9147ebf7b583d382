/- A policy's copy; the next wait. -/
import Derived.Test.YticcicdbncmfbaaMul
import Derived.Laws.Rows
import Derived.Laws.CopyOwn
import Derived.Deep.WholeRow
namespace Go.Proofs.Yticcicdbncmfbaa
open Go.RowKit

def icells (l : List Int) : List Value := l.map fun b => .int .i64 b
theorem icells_length (l : List Int) : (icells l).length = l.length := by unfold icells; exact List.length_map _
theorem icells_one (l : List Int) : ∀ u ∈ icells l, u.oneCell' = true := by
  unfold icells
  intro u hu
  obtain ⟨b, _, rfl⟩ := List.mem_map.1 hu
  rfl

theorem infoI : (Try.prog.info? 2).map (fun i => (i.zero, i.size, i.bytes)) = some (some (.int .i64 0), 1, 8) := by kernel_rfl

theorem only_setRow (w : World) (g : Nat) (cs : Array Value) : w.grownBy (w.setRow g cs) (some g) := by
  refine ⟨rfl, rfl, rfl, by simp [World.setRow], fun i _ hne => ?_⟩
  have hn : g ≠ i := fun e => hne (by rw [e])
  simp [World.setRow, Array.getElem?_modify, hn]

/-- What is told of a slice that came in. -/
def InRow (w : World) (A : Option Addr) (L K : Nat) (l : List Int) : Prop := Reads w w.heap.size 1 A L (icells l) ∧ l.length = L ∧ L ≤ K ∧ L ≤ 9223372036854775807 ∧ L * 8 ≤ 140737488351232

set_option maxHeartbeats 1000000 in
theorem policy_any (F C N D M S : Int) (A : Option Addr) (L K : Nat) (l : List Int) (w : World) (hl : InRow w A L K l) :
    Calls Try.prog 9 #[.agg #[.int .i64 F, .int .i64 C, .int .i64 N, .int .i64 D, .int .i64 M, .int .i64 S, .slice A L K]] w fun e w' => ∃ A' K', e = .returned (.agg #[.int .i64 F, .int .i64 C, .int .i64 N, .int .i64 D, .int .i64 M, .int .i64 S, .slice A' L K']) ∧ w'.ownsRow w.heap.size 2 1 (.slice A' L K') L (icells l) ∧ Below w.heap.size w w' := by
  obtain ⟨i0, hi, hz0, hz1, hz2⟩ := info_parts infoI
  obtain ⟨hr, hll, hlk, hm, hb⟩ := hl
  have HR := Lib.hid hr
  clear hr
  go_enter Try.func9, Try.ntmps9
  go_wp2_with (at_builtin; refine wpList_append_any _ rfl _ _ 22 rfl w.heap.size 2 i0 (.int .i64 0) 1 8 Try.underlying22 hi hz0 hz1 hz2 rfl (by decide) (.slice none 0 0) 0 [] rfl (World.ownsRow_nil _ _ _ _) w.heap.size A L K _ rfl (Reads.alloc (Reads.alloc (Reads.alloc HR.out (Nat.le_refl _) _) (by simp) _) (by simp; omega) _) (icells_one l) ?c3 ?c4 ?c5 ?_)
  case c3 => unfold maxLen; omega
  case c4 => omega
  case c5 => simp; omega
  intro v' w1 ho1 hg1 _
  obtain ⟨A', K', rfl, _⟩ := own_form ho1
  have HO1 := Lib.hid ho1
  have HB1 := Lib.hid (show Below w.heap.size w w1 from ((((Below.refl _ _).alloc (Nat.le_refl _) _).alloc (by simp) _).alloc (by simp; omega) _).grown hg1 (by simp; omega) (fun g hg => by simp [Value.ownBlock] at hg))
  have hx : Blk w1 (w.heap.size + 1 + 1) 24 #[.int .i64 F, .int .i64 C, .int .i64 N, .int .i64 D, .int .i64 M, .int .i64 S, .slice none 0 0] := by
    refine Blk.grown ?_ hg1 (by simp [Value.ownBlock])
    have := Blk.new ((w.alloc (.cells #[.int .i64 F, .int .i64 C, .int .i64 N, .int .i64 D, .int .i64 M, .int .i64 S, .slice A L K] 24)).alloc (.cells #[.int .i64 0, .int .i64 0, .int .i64 0, .int .i64 0, .int .i64 0, .int .i64 0, .slice none 0 0] 24)) 24 #[.int .i64 F, .int .i64 C, .int .i64 N, .int .i64 D, .int .i64 M, .int .i64 S, .slice none 0 0]
    simpa using this
  have hy : Blk w1 (w.heap.size + 1) 24 #[.int .i64 0, .int .i64 0, .int .i64 0, .int .i64 0, .int .i64 0, .int .i64 0, .slice none 0 0] := by
    refine Blk.grown (Blk.alloc ?_ _) hg1 (by simp [Value.ownBlock])
    have := Blk.new (w.alloc (.cells #[.int .i64 F, .int .i64 C, .int .i64 N, .int .i64 D, .int .i64 M, .int .i64 S, .slice A L K] 24)) 24 #[.int .i64 0, .int .i64 0, .int .i64 0, .int .i64 0, .int .i64 0, .int .i64 0, .slice none 0 0]
    simpa using this
  have hc6 : w1.cell? ⟨w.heap.size + 1 + 1, 6, none⟩ = some (.slice none 0 0) := hx.cell 6
  have hf6 := hx.frozen 6
  have hx2 := hx.set_ 6 (.slice A' L K')
  have hy2 := hy.far (p := ⟨w.heap.size + 1 + 1, 6, none⟩) (by simp) (.slice A' L K')
  have HX := Lib.hid hx2
  have HY := Lib.hid hy2
  have HNE := Lib.hid (And.intro (own_blk_ne HO1.out hx (by decide)) (own_blk_ne HO1.out hy (by decide)))
  clear hg1 ho1 hx hy hx2 hy2
  go_wp2_with (first | (refine wpList_load_row rfl 24 _ rfl _ rfl 24 _ (0, 0) _ HX.out Try.underlying24 rfl (by kernel_rfl) ?_) | (refine wpList_store_row rfl 24 _ _ rfl (w.heap.size + 1) #[.int .i64 F, .int .i64 C, .int .i64 N, .int .i64 D, .int .i64 M, .int .i64 S, .slice A' L K'] rfl rfl 24 _ HY.out (by kernel_rfl) (by kernel_rfl) (by kernel_rfl) ?_))
  refine bodyPost_ret (results_cell_row rfl _ _ (w.heap.size + 1) 24 #[.int .i64 F, .int .i64 C, .int .i64 N, .int .i64 D, .int .i64 M, .int .i64 S, .slice A' L K'] (0, 0) _ rfl (setRow_heap _ (w.heap.size + 1) _ _ 24 _ HY.out) Try.underlying24 rfl (by kernel_rfl)) rfl ⟨A', K', rfl, ?_, below_setRow (HB1.out.setCell (p := ⟨w.heap.size + 1 + 1, 6, none⟩) (by simp; omega) _) (by omega) _⟩
  have ho2 := World.ownsRow.kept HO1.out (only_setCell (only_of_below (Below.refl _ w1) (some (w.heap.size + 1 + 1))) (p := ⟨w.heap.size + 1 + 1, 6, none⟩) (Or.inl rfl) (.slice A' L K')) (.inr HNE.out.1)
  exact World.ownsRow.kept ho2 (only_setRow _ (w.heap.size + 1) _) (.inr HNE.out.2)

/-- The next wait. -/
def nextN (c n d wn : Nat) : Nat := if wn * n < 9223372036854775808 then min c (wn * n / d) else c

theorem grown_any (F M S : Int) (c n d : Nat) (A : Option Addr) (L K wn : Nat) (w : World) (hn : n ≤ 1000) (hd : 1 ≤ d) (_hdn : d ≤ n) (_hc : c < 9223372036854775808) (hw : wn < 9223372036854775808) :
    Calls Try.prog 31 #[.agg #[.int .i64 F, .int .i64 (c : Nat), .int .i64 (n : Nat), .int .i64 (d : Nat), .int .i64 M, .int .i64 S, .slice A L K], .int .i64 wn] w fun e w' => e = .returned (.int .i64 (nextN c n d wn)) ∧ Below w.heap.size w w' := by
  have hp : wn * n < 9223372036854775808 * 1001 := Nat.mul_lt_mul'' hw (by omega)
  obtain ⟨p, hpe⟩ : ∃ p, p = wn * n := ⟨_, rfl⟩
  have HN := Lib.hid (show nextN c n d wn = if p < 9223372036854775808 then min c (p / d) else c by unfold nextN; rw [hpe])
  rw [← hpe] at hp
  obtain ⟨x, hx⟩ : ∃ x, x = p / 18446744073709551616 := ⟨_, rfl⟩
  obtain ⟨y, hy⟩ : ∃ y, y = p % 18446744073709551616 := ⟨_, rfl⟩
  have HX := Lib.hid hx
  have HY := Lib.hid hy
  have HP := Lib.hid hpe
  by_cases hlt : p < 9223372036854775808
  · have hx0 : x = 0 := by omega
    have hyp : y = p := by omega
    rw [if_pos hlt] at HN
    have hq : p / d ≤ p := Nat.div_le_self _ _
    obtain ⟨q, hqe⟩ : ∃ q, q = p / d := ⟨_, rfl⟩
    rw [← hqe] at hq HN
    have e1 : (p : Int) / (d : Int) = (q : Int) := by rw [hqe]; exact (Int.natCast_ediv p d).symm
    have e2 : ¬ (d : Int) = 0 := by omega
    clear hp hpe hx hy hqe
    go_enter Try.func31, Try.ntmps31
    go_wp2_with fail
    refine (mul_any wn n (by omega) (by omega) _).mono ?_
    rintro e w' ⟨rfl, rfl⟩
    rw [← HP.out, ← HX.out, ← HY.out, hx0, hyp]
    go_wp2_with fail
    go_region
    all_goals (go_wp2_with fail)
    all_goals (go_ret; exact ⟨ret_int (by rw [HN.out]; first | omega | (split <;> omega)), Below.drew ((Below.refl _ _).alloc (Nat.le_refl _) _)⟩)
  · rw [if_neg hlt] at HN
    by_cases hx0 : 0 < x
    · clear hp hpe hx hy
      go_enter Try.func31, Try.ntmps31
      go_wp2_with fail
      refine (mul_any wn n (by omega) (by omega) _).mono ?_
      rintro e w' ⟨rfl, rfl⟩
      rw [← HP.out, ← HX.out, ← HY.out]
      go_wp2_with fail
      go_ret
      exact ⟨ret_int (by rw [HN.out]), (Below.refl _ _).alloc (Nat.le_refl _) _⟩
    · have hx1 : x = 0 := by omega
      have hyp : 9223372036854775808 ≤ y := by omega
      clear hp hpe hx hy
      go_enter Try.func31, Try.ntmps31
      go_wp2_with fail
      refine (mul_any wn n (by omega) (by omega) _).mono ?_
      rintro e w' ⟨rfl, rfl⟩
      rw [← HP.out, ← HX.out, ← HY.out, hx1]
      go_wp2_with fail
      go_ret
      exact ⟨ret_int (by rw [HN.out]), (Below.refl _ _).alloc (Nat.le_refl _) _⟩

theorem next_any (F M S : Int) (c n d : Nat) (A : Option Addr) (L K wn : Nat) (w : World) (hn : n ≤ 1000) (hd : 1 ≤ d) (hdn : d ≤ n) (_hc : c < 9223372036854775808) (_hw : wn < 9223372036854775808) :
    Calls Try.prog 24 #[.agg #[.int .i64 F, .int .i64 (c : Nat), .int .i64 (n : Nat), .int .i64 (d : Nat), .int .i64 M, .int .i64 S, .slice A L K], .int .i64 wn] w fun e w' => e = .returned (.int .i64 (nextN c n d wn)) ∧ Below w.heap.size w w' := by
  obtain ⟨g, hg⟩ : ∃ g, g = 9223372036854775807 / n := ⟨_, rfl⟩
  have e1 : (9223372036854775807 : Int) / (n : Int) = (g : Int) := by rw [hg]; exact (Int.natCast_ediv 9223372036854775807 n).symm
  have e2 : ¬ (n : Int) = 0 := by omega
  obtain ⟨p, hpe⟩ : ∃ p, p = wn * n := ⟨_, rfl⟩
  have HN := Lib.hid (show nextN c n d wn = if p < 9223372036854775808 then min c (p / d) else c by unfold nextN; rw [hpe])
  have hiff : wn ≤ g ↔ p ≤ 9223372036854775807 := by rw [hg, hpe]; exact Nat.le_div_iff_mul_le (by omega)
  by_cases hlt : wn ≤ g
  · have hp : p < 9223372036854775808 := by omega
    rw [if_pos hp] at HN
    have hq : p / d ≤ p := Nat.div_le_self _ _
    obtain ⟨q, hqe⟩ : ∃ q, q = p / d := ⟨_, rfl⟩
    rw [← hqe] at hq HN
    have e3 : (p : Int) / (d : Int) = (q : Int) := by rw [hqe]; exact (Int.natCast_ediv p d).symm
    have e4 : ¬ (d : Int) = 0 := by omega
    have e5 : (wn : Int) * (n : Int) = (p : Int) := by rw [hpe]; simp
    clear hpe hiff hg hqe
    go_enter Try.func24, Try.ntmps24
    go_wp2_with fail
    go_region
    all_goals (go_wp2_with fail)
    all_goals (go_ret; exact ⟨ret_int (by rw [HN.out]; first | omega | (split <;> omega)), Below.drew ((Below.refl _ _).alloc (Nat.le_refl _) _)⟩)
  · have hp : ¬ p < 9223372036854775808 := by omega
    rw [if_neg hp] at HN
    have hlt' : g < wn := by omega
    clear hpe hiff hg
    go_enter Try.func24, Try.ntmps24
    go_wp2_with fail
    go_ret
    exact ⟨ret_int (by rw [HN.out]), (Below.refl _ _).alloc (Nat.le_refl _) _⟩

end Go.Proofs.Yticcicdbncmfbaa
