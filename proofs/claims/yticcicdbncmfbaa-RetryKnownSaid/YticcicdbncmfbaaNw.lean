/- The walk of prompterlaw20.RetryNext: it returns true. -/
import Derived.Test.YticcicdbncmfbaaNx2
namespace Go.Proofs.Yticcicdbncmfbaa
open Go.RowKit

theorem next_both (F C N D M S : Int) (A A' : Option Addr) (L K K' : Nat) (l : List Int) (at_ code : Int) (draw : Nat) (hL : L ≤ 9223372036854775807) (hC : C < 9223372036854775808) (ha : at_ < 9223372036854775808) (hd : draw < 4294967296) :
    ∃ (v : Int) (b : Bool) (e : Int), (∀ w, InRow w A' L K' l → Calls Try.prog 19 #[.agg #[.int .i64 F, .int .i64 C, .int .i64 N, .int .i64 D, .int .i64 M, .int .i64 S, .slice A' L K'], .int .i64 at_, .int .i64 code, .int .u32 draw] w fun x w' => x = .returned (.tuple #[.int .i64 v, .bool b, .int .i64 e]) ∧ Below w.heap.size w w') ∧
      (∀ w, InRow w A L K l → Calls Try.prog 20 #[.agg #[.int .i64 F, .int .i64 C, .int .i64 N, .int .i64 D, .int .i64 M, .int .i64 S, .slice A L K], .int .i64 at_, .int .i64 code, .int .u32 draw] w fun x w' => x = .returned (.tuple #[.int .i64 v, .bool b, .int .i64 e]) ∧ Below w.heap.size w w') := by
  by_cases hm : May F C N D M S L ∧ 1 ≤ at_
  · obtain ⟨h1, h2⟩ := hm
    have h3 := h1
    obtain ⟨k0, k1, k2, k3, _, _, _, k7, _, _⟩ := h3
    obtain ⟨f, rfl⟩ : ∃ n : Nat, F = n := ⟨F.toNat, by omega⟩
    obtain ⟨c, rfl⟩ : ∃ n : Nat, C = n := ⟨C.toNat, by omega⟩
    obtain ⟨n, rfl⟩ : ∃ n : Nat, N = n := ⟨N.toNat, by omega⟩
    obtain ⟨d, rfl⟩ : ∃ n : Nat, D = n := ⟨D.toNat, by omega⟩
    obtain ⟨s, rfl⟩ : ∃ n : Nat, S = n := ⟨S.toNat, by omega⟩
    obtain ⟨a, rfl⟩ : ∃ n : Nat, at_ = n := ⟨at_.toNat, by omega⟩
    exact ⟨_, _, _, fun w hr => next_ok f c n d s M A' L K' l a code draw w hr h1 (by omega) (by omega) (by omega) hd, fun w hr => refNext_ok f c n d s M A L K l a code draw w hr h1 (by omega) (by omega) (by omega) hd⟩
  · exact ⟨_, _, _, fun w _ => next_bad F C N D M S A' L K' at_ code _ w hL hm, fun w _ => refNext_bad F C N D M S A L K at_ code _ w hL hm⟩

theorem InRow.own {w : World} {base : Nat} {A : Option Addr} {L K : Nat} {l : List Int} (h : w.ownsRow base 2 1 (.slice A L K) L (icells l)) (hl : l.length = L) (hm : L ≤ 9223372036854775807) (hb : L * 8 ≤ 140737488351232) : InRow w A L K l := by
  obtain ⟨A2, c2, he, hc⟩ := own_form h
  injection he with h1 h2 h3
  subst h1; subst h3
  exact ⟨Reads.of_own h, hl, hc, hm, hb⟩

theorem InRow.cell {w : World} {A : Option Addr} {L K : Nat} {l : List Int} (h : InRow w A L K l) {k : Nat} (hk : k < L) (hkl : k < l.length) : ∃ b off, A = some ⟨b, off, none⟩ ∧ w.cell? ⟨b, off + k, none⟩ = some (.int .i64 l[k]) := by
  obtain ⟨b, off, hA, _, hc⟩ := h.1.place (by omega)
  exact ⟨b, off, hA, hc k _ (by unfold icells; rw [List.getElem?_map, List.getElem?_eq_getElem hkl]; rfl)⟩

set_option maxHeartbeats 2000000 in
theorem next_walk (F C N D M S : Int) (A : Option Addr) (L K : Nat) (l : List Int) (at_ code : Int) (draw : Nat) (w : World) (hrow : InRow w A L K l) (hC : C < 9223372036854775808) (ha : at_ < 9223372036854775808) (hd : draw < 4294967296) :
    Calls Try.prog 6 #[.agg #[.int .i64 F, .int .i64 C, .int .i64 N, .int .i64 D, .int .i64 M, .int .i64 S, .slice A L K], .int .i64 at_, .int .i64 code, .int .u32 draw] w fun e w' => e = .returned (.bool true) ∧ Below w.heap.size w w' := by
  have hL : L ≤ 9223372036854775807 := hrow.2.2.2.1
  have HR := Lib.hid hrow
  clear hrow
  go_enter Try.func6, Try.ntmps6
  go_wp2_with fail
  refine (policy_any F C N D M S A L K l _ (HR.out.alloc _)).mono ?_
  rintro e w2 ⟨A', K', rfl, hown, hb2⟩
  have hP := (Blk.new w 24 #[.int .i64 F, .int .i64 C, .int .i64 N, .int .i64 D, .int .i64 M, .int .i64 S, .slice A L K]).below hb2 (by simp)
  have hB := ((Below.refl w.heap.size w).alloc (Nat.le_refl _) (.cells #[.int .i64 F, .int .i64 C, .int .i64 N, .int .i64 D, .int .i64 M, .int .i64 S, .slice A L K] 24)).trans (hb2.mono (by simp))
  have hs : w.heap.size < w2.heap.size := by have := hb2.size; simp at this; omega
  have HQz := Lib.hid ((InRow.own hown HR.out.2.1 HR.out.2.2.2.1 HR.out.2.2.2.2).alloc (.cells #[.int .i64 F, .int .i64 C, .int .i64 N, .int .i64 D, .int .i64 M, .int .i64 S, .slice A' L K'] 24))
  have HRz := Lib.hid ((HR.out.below hB).alloc (.cells #[.int .i64 F, .int .i64 C, .int .i64 N, .int .i64 D, .int .i64 M, .int .i64 S, .slice A' L K'] 24))
  have HPz := Lib.hid (hP.alloc (.cells #[.int .i64 F, .int .i64 C, .int .i64 N, .int .i64 D, .int .i64 M, .int .i64 S, .slice A' L K'] 24))
  have HBz := Lib.hid (hB.alloc hB.size (.cells #[.int .i64 F, .int .i64 C, .int .i64 N, .int .i64 D, .int .i64 M, .int .i64 S, .slice A' L K'] 24))
  clear hb2 hP hB hown
  obtain ⟨b9, hb9⟩ : ∃ b, b = w2.heap.size := ⟨_, rfl⟩
  have HXz := Lib.hid (Blk.new w2 24 #[.int .i64 F, .int .i64 C, .int .i64 N, .int .i64 D, .int .i64 M, .int .i64 S, .slice A' L K'])
  have hsz : (w2.alloc (.cells #[.int .i64 F, .int .i64 C, .int .i64 N, .int .i64 D, .int .i64 M, .int .i64 S, .slice A' L K'] 24)).heap.size = b9 + 1 := by simp [hb9]
  rw [← hb9] at HXz hs
  obtain ⟨v, b, er, c1, c2⟩ := next_both F C N D M S A A' L K K' l at_ code draw hL hC ha hd
  have HC1 := Lib.hid c1
  have HC2 := Lib.hid c2
  clear c1 c2
  go_wp2_with fail
  rw [← hb9]
  obtain ⟨w3, hw3⟩ : ∃ w3, w3 = w2.alloc (.cells #[.int .i64 F, .int .i64 C, .int .i64 N, .int .i64 D, .int .i64 M, .int .i64 S, .slice A' L K'] 24) := ⟨_, rfl⟩
  rw [← hw3] at HPz HBz HXz HQz HRz hsz ⊢
  have HX := Lib.hid HXz.out
  have HP := Lib.hid HPz.out
  have HB := Lib.hid HBz.out
  have HQ := Lib.hid HQz.out
  have HRR := Lib.hid HRz.out
  have s9 : b9 < w3.heap.size := by omega
  have s0 : w.heap.size < w3.heap.size := by omega
  clear hw3 hb9 HPz HBz HXz HQz HRz HR hsz hs
  go_wp2_with (refine wpList_load_row rfl 24 _ rfl b9 rfl 24 _ (0, 0) _ HX.out Try.underlying24 rfl (by kernel_rfl) ?_)
  refine (HC1.out w3 HQ.out).mono ?_
  rintro e w4 ⟨rfl, hb⟩
  have HX := Lib.hid (HX.out.below hb s9); have HP := Lib.hid (HP.out.below hb s0); have HQ := Lib.hid (HQ.out.below hb); have HRR := Lib.hid (HRR.out.below hb); have HB := Lib.hid (HB.out.trans (hb.mono HB.out.size)); have s9 := Nat.lt_of_lt_of_le s9 hb.size; have s0 := Nat.lt_of_lt_of_le s0 hb.size; clear hb
  go_wp2_with (refine wpList_load_row rfl 24 _ rfl w.heap.size rfl 24 _ (0, 0) _ HP.out Try.underlying24 rfl (by kernel_rfl) ?_)
  refine (HC2.out w4 HRR.out).mono ?_
  rintro e w5 ⟨rfl, hb⟩
  have HX := Lib.hid (HX.out.below hb s9); have HP := Lib.hid (HP.out.below hb s0); have HQ := Lib.hid (HQ.out.below hb); have HRR := Lib.hid (HRR.out.below hb); have HB := Lib.hid (HB.out.trans (hb.mono HB.out.size)); have s9 := Nat.lt_of_lt_of_le s9 hb.size; have s0 := Nat.lt_of_lt_of_le s0 hb.size; clear hb
  clear HC1 HC2
  go_wp2_with fail
  go_loopw [16] (fun i wr => ∃ k : Nat, k ≤ L ∧ i = .int .i64 k ∧ Below w5.heap.size w5 wr) (fun i _ => L - (intOf i).toNat)
  case atStart => exact ⟨0, Nat.zero_le _, rfl, Below.refl _ _⟩
  case round =>
    obtain ⟨k, hk, rfl, hb⟩ := hrel
    have HX := Lib.hid (HX.out.below hb s9); have HP := Lib.hid (HP.out.below hb s0); have HQ := Lib.hid (HQ.out.below hb); have HRR := Lib.hid (HRR.out.below hb); have HB := Lib.hid (HB.out.trans (hb.mono HB.out.size)); have HB5 := Lib.hid hb; clear hb
    have p6 : wr.cell? ⟨w.heap.size, 6, none⟩ = some (.slice A L K) := HP.out.cell 6
    have x6 : wr.cell? ⟨b9, 6, none⟩ = some (.slice A' L K') := HX.out.cell 6
    by_cases hlt : k < L
    · have hll := HQ.out.2.1
      have hkl : k < l.length := by omega
      obtain ⟨b1, o1, rfl, hc1⟩ := HQ.out.cell hlt hkl
      obtain ⟨b2, o2, rfl, hc2⟩ := HRR.out.cell hlt hkl
      clear hll
      obtain ⟨y, hy⟩ : ∃ y, y = l[k] := ⟨_, rfl⟩
      rw [← hy] at hc1 hc2
      clear hy
      go_wp2_with fail
      go_quiet (fail)
      go_wp2_with fail
      go_roundw
      case rel => exact ⟨k + 1, by omega, by go_num, below_drewN HB5.out _⟩
      case measure => simp [intOf]; omega
    · go_wp2_with fail
      refine (awake_any wr).mono ?_
      rintro e w6 ⟨rfl, hb⟩
      have HB := Lib.hid (HB.out.trans (hb.mono HB.out.size))
      clear hb
      go_wp2_with fail
      go_ret
      exact ⟨rfl, HB.out⟩
end Go.Proofs.Yticcicdbncmfbaa
