/- The next attempt. -/
import Derived.Test.YticcicdbncmfbaaNxt
namespace Go.Proofs.Yticcicdbncmfbaa
open Go.RowKit

def againB (M : Int) (a : Nat) (l : List Int) (code : Int) : Bool := decide ((a : Int) < M) && !hasB l code
def nextV (M : Int) (a : Nat) (l : List Int) (code : Int) (v : Int) : Int := if againB M a l code then v else 0
theorem nextV_no {M : Int} {a : Nat} {l : List Int} {code : Int} (v : Int) (h : againB M a l code = false) : nextV M a l code v = 0 := by unfold nextV; rw [h]; rfl
theorem nextV_yes {M : Int} {a : Nat} {l : List Int} {code : Int} (v : Int) (h : againB M a l code = true) : nextV M a l code v = v := by unfold nextV; rw [h]; rfl

set_option maxHeartbeats 1000000 in
theorem next_bad (F C N D M S : Int) (A : Option Addr) (L K : Nat) (at_ code : Int) (draw : Value) (w : World) (hL : L ≤ 9223372036854775807) (hM : ¬ (May F C N D M S L ∧ 1 ≤ at_)) :
    Calls Try.prog 19 #[.agg #[.int .i64 F, .int .i64 C, .int .i64 N, .int .i64 D, .int .i64 M, .int .i64 S, .slice A L K], .int .i64 at_, .int .i64 code, draw] w fun e w' => e = .returned (.tuple #[.int .i64 0, .bool false, .int .i64 1]) ∧ Below w.heap.size w w' := by
  have hmf : ∀ (fn : Fn) (first cap : Array Value) (w : World), (Instr.makeFunc fn first cap).run Try.prog w = .ok (.func fn first cap) w := fun _ _ _ _ => rfl
  go_enter Try.func19, Try.ntmps19
  go_wp2_with fail
  refine (wait_bad F C N D M S A L K at_ _ hL hM).mono ?_
  rintro e w1 ⟨rfl, hb1⟩
  have HX1 := Lib.hid ((Blk.new w 24 #[.int .i64 F, .int .i64 C, .int .i64 N, .int .i64 D, .int .i64 M, .int .i64 S, .slice A L K]).below hb1 (by simp))
  have HB1 := Lib.hid (show Below w.heap.size w w1 from ((Below.refl _ _).alloc (Nat.le_refl _) _).trans (hb1.mono (by simp)))
  clear hb1
  go_wp2_with (refine wpList_load_row rfl 24 _ rfl w.heap.size rfl 24 _ (0, 0) _ HX1.out Try.underlying24 rfl (by kernel_rfl) ?_)
  go_ret3
  exact ⟨rfl, HB1.out⟩

theorem refNext_bad (F C N D M S : Int) (A : Option Addr) (L K : Nat) (at_ code : Int) (draw : Value) (w : World) (hL : L ≤ 9223372036854775807) (hM : ¬ (May F C N D M S L ∧ 1 ≤ at_)) :
    Calls Try.prog 20 #[.agg #[.int .i64 F, .int .i64 C, .int .i64 N, .int .i64 D, .int .i64 M, .int .i64 S, .slice A L K], .int .i64 at_, .int .i64 code, draw] w fun e w' => e = .returned (.tuple #[.int .i64 0, .bool false, .int .i64 1]) ∧ Below w.heap.size w w' := by
  go_enter Try.func20, Try.ntmps20
  go_wp2_with fail
  refine (refWait_bad F C N D M S A L K at_ _ hL hM).mono ?_
  rintro e w1 ⟨rfl, hb1⟩
  have HB1 := Lib.hid (show Below w.heap.size w w1 from ((Below.refl _ _).alloc (Nat.le_refl _) _).trans (hb1.mono (by simp)))
  clear hb1
  go_wp2_with fail
  go_ret3
  exact ⟨rfl, HB1.out⟩

set_option maxHeartbeats 1000000 in
theorem next_ok (f c n d sn : Nat) (M : Int) (A : Option Addr) (L K : Nat) (l : List Int) (a : Nat) (code : Int) (draw : Nat) (w : World) (hrow : InRow w A L K l) (hM : May f c n d M sn L) (hc : c < 9223372036854775808) (ha : 1 ≤ a) (ha2 : a < 9223372036854775808) (hd : draw < 4294967296) :
    Calls Try.prog 19 #[.agg #[.int .i64 (f : Nat), .int .i64 (c : Nat), .int .i64 (n : Nat), .int .i64 (d : Nat), .int .i64 M, .int .i64 (sn : Nat), .slice A L K], .int .i64 a, .int .i64 code, .int .u32 draw] w fun e w' =>
      e = .returned (.tuple #[.int .i64 (nextV M a l code (drawnV sn (wseq c n d f (a - 1) : Nat) draw)), .bool (againB M a l code), .int .i64 0]) ∧ Below w.heap.size w w' := by
  have hmf : ∀ (fn : Fn) (first cap : Array Value) (w : World), (Instr.makeFunc fn first cap).run Try.prog w = .ok (.func fn first cap) w := fun _ _ _ _ => rfl
  have hwl : wseq c n d f (a - 1) < 9223372036854775808 := Nat.lt_of_le_of_lt (wseq_le (by obtain ⟨_, h, _⟩ := hM; omega) _) hc
  have HR := Lib.hid hrow
  have HM := Lib.hid hM
  clear hrow hM
  go_enter Try.func19, Try.ntmps19
  go_wp2_with fail
  refine (wait_ok f c n d M sn A L K a _ HM.out hc ha ha2).mono ?_
  rintro e w1 ⟨rfl, hb1⟩
  have HX1 := Lib.hid ((Blk.new w 24 #[.int .i64 (f : Nat), .int .i64 (c : Nat), .int .i64 (n : Nat), .int .i64 (d : Nat), .int .i64 M, .int .i64 (sn : Nat), .slice A L K]).below hb1 (by simp))
  have HB1 := Lib.hid (show Below w.heap.size w w1 from ((Below.refl _ _).alloc (Nat.le_refl _) _).trans (hb1.mono (by simp)))
  have hs1 : w.heap.size < w1.heap.size := by have := hb1.size; simp at this; omega
  have HR1 := Lib.hid (HR.out.below HB1.out)
  clear hb1 HR
  obtain ⟨wn, hwn⟩ : ∃ wn, wn = wseq c n d f (a - 1) := ⟨_, rfl⟩
  rw [← hwn] at hwl ⊢
  have HWN := Lib.hid hwn
  clear hwn
  have hM4 : w1.cell? ⟨w.heap.size, 4, none⟩ = some (.int .i64 M) := HX1.out.cell 4
  by_cases h1 : (a : Int) < M
  · by_cases h2 : hasB l code = true
    · have H := Lib.hid (show againB M a l code = false by unfold againB; rw [h2]; simp)
      have H2 := Lib.hid h2
      clear h2
      go_wp2_with (refine wpList_load_row rfl 24 _ rfl w.heap.size rfl 24 _ (0, 0) _ HX1.out Try.underlying24 rfl (by kernel_rfl) ?_)
      refine (fatal_any f c n d M sn A L K l code w1 HR1.out).mono ?_
      rintro e w2 ⟨rfl, hb2⟩
      rw [H2.out]
      have HB2 := Lib.hid (HB1.out.trans (hb2.mono HB1.out.size))
      clear hb2
      go_wp2_with fail
      go_ret3
      exact ⟨by rw [nextV_no _ H.out, H.out]; rfl, HB2.out⟩
    · have h3 : hasB l code = false := by simpa using h2
      have H := Lib.hid (show againB M a l code = true by unfold againB; rw [h3]; simpa using h1)
      have H2 := Lib.hid h3
      clear h2 h3
      go_wp2_with (refine wpList_load_row rfl 24 _ rfl w.heap.size rfl 24 _ (0, 0) _ HX1.out Try.underlying24 rfl (by kernel_rfl) ?_)
      refine (fatal_any f c n d M sn A L K l code w1 HR1.out).mono ?_
      rintro e w2 ⟨rfl, hb2⟩
      rw [H2.out]
      have HB2 := Lib.hid (HB1.out.trans (hb2.mono HB1.out.size))
      have HX2 := Lib.hid (HX1.out.below hb2 hs1)
      clear hb2 hM4
      go_wp2_with (refine wpList_load_row rfl 24 _ rfl w.heap.size rfl 24 _ (0, 0) _ HX2.out Try.underlying24 rfl (by kernel_rfl) ?_)
      refine (drawn_ok f c n d M sn A L K wn draw w2 HM.out hwl hd).mono ?_
      rintro e w3 ⟨rfl, hb3⟩
      have HB3 := Lib.hid (HB2.out.trans (hb3.mono HB2.out.size))
      clear hb3
      go_wp2_with fail
      go_ret3
      exact ⟨by rw [nextV_yes _ H.out, H.out, ← HWN.out]; rfl, HB3.out⟩
  · have H := Lib.hid (show againB M a l code = false by unfold againB; rw [decide_eq_false h1]; rfl)
    have h1' : M ≤ (a : Int) := by omega
    clear h1
    go_wp2_with (refine wpList_load_row rfl 24 _ rfl w.heap.size rfl 24 _ (0, 0) _ HX1.out Try.underlying24 rfl (by kernel_rfl) ?_)
    go_ret3
    exact ⟨by rw [nextV_no _ H.out, H.out]; rfl, HB1.out⟩

theorem hasB_take {l : List Int} {v : Int} {k : Nat} (h : k < l.length) (hv : l[k] = v) : hasB l v = true := decide_eq_true (by rw [← hv]; exact List.getElem_mem h)

set_option maxHeartbeats 1000000 in
theorem refNext_ok (f c n d sn : Nat) (M : Int) (A : Option Addr) (L K : Nat) (l : List Int) (a : Nat) (code : Int) (draw : Nat) (w : World) (hrow : InRow w A L K l) (hM : May f c n d M sn L) (hc : c < 9223372036854775808) (ha : 1 ≤ a) (ha2 : a < 9223372036854775808) (hd : draw < 4294967296) :
    Calls Try.prog 20 #[.agg #[.int .i64 (f : Nat), .int .i64 (c : Nat), .int .i64 (n : Nat), .int .i64 (d : Nat), .int .i64 M, .int .i64 (sn : Nat), .slice A L K], .int .i64 a, .int .i64 code, .int .u32 draw] w fun e w' =>
      e = .returned (.tuple #[.int .i64 (nextV M a l code (drawnV sn (wseq c n d f (a - 1) : Nat) draw)), .bool (againB M a l code), .int .i64 0]) ∧ Below w.heap.size w w' := by
  have hwl : wseq c n d f (a - 1) < 9223372036854775808 := Nat.lt_of_le_of_lt (wseq_le (by obtain ⟨_, h, _⟩ := hM; omega) _) hc
  have hL : L ≤ 9223372036854775807 := hrow.2.2.2.1
  have HR := Lib.hid hrow
  have HM := Lib.hid hM
  clear hrow hM
  go_enter Try.func20, Try.ntmps20
  go_wp2_with fail
  refine (refWait_ok f c n d M sn A L K a _ HM.out hc ha ha2).mono ?_
  rintro e w1 ⟨rfl, hb1⟩
  have HX1 := Lib.hid ((Blk.new w 24 #[.int .i64 (f : Nat), .int .i64 (c : Nat), .int .i64 (n : Nat), .int .i64 (d : Nat), .int .i64 M, .int .i64 (sn : Nat), .slice A L K]).below hb1 (by simp))
  have HB1 := Lib.hid (show Below w.heap.size w w1 from ((Below.refl _ _).alloc (Nat.le_refl _) _).trans (hb1.mono (by simp)))
  have hs1 : w.heap.size < w1.heap.size := by have := hb1.size; simp at this; omega
  have HR1 := Lib.hid (HR.out.below HB1.out)
  clear hb1 HR
  obtain ⟨wn, hwn⟩ : ∃ wn, wn = wseq c n d f (a - 1) := ⟨_, rfl⟩
  rw [← hwn] at hwl ⊢
  have HWN := Lib.hid hwn
  clear hwn
  have hM4 : w1.cell? ⟨w.heap.size, 4, none⟩ = some (.int .i64 M) := HX1.out.cell 4
  have hM6 : w1.cell? ⟨w.heap.size, 6, none⟩ = some (.slice A L K) := HX1.out.cell 6
  by_cases h1 : (a : Int) < M
  · go_wp2_with fail
    go_loop [13] (fun i => ∃ k : Nat, k ≤ L ∧ i = .int .i64 k ∧ hasB (l.take k) code = false) (fun i => L - (intOf i).toNat)
    case atStart => exact ⟨0, Nat.zero_le _, rfl, decide_eq_false (by simp)⟩
    case round =>
      obtain ⟨k, hk, rfl, hv⟩ := hrel
      have HV := Lib.hid hv
      clear hv
      by_cases hlt : k < L
      · have hll := HR1.out.2.1
        have hkl : k < l.length := by omega
        obtain ⟨b, off, rfl, _, hcl⟩ := HR1.out.1.place (by omega)
        have hck : w1.cell? ⟨b, off + k, none⟩ = some (.int .i64 l[k]) := hcl k _ (by unfold icells; rw [List.getElem?_map, List.getElem?_eq_getElem hkl]; rfl)
        have HT := Lib.hid (List.take_succ_eq_append_getElem hkl)
        have HG := Lib.hid (fun v => hasB_take (v := v) hkl)
        clear hcl hll
        obtain ⟨y, hy⟩ : ∃ y, y = l[k] := ⟨_, rfl⟩
        rw [← hy] at hck HT HG
        clear hy
        by_cases he : y = code
        · have hb : (y == code) = true := by simpa using he
          have H := Lib.hid (show againB M a l code = false by unfold againB; rw [HG.out _ he]; simp)
          clear he
          go_wp2_with fail
          go_ret3
          exact ⟨by rw [nextV_no _ H.out, H.out]; rfl, HB1.out⟩
        · have hb : (y == code) = false := by simpa using he
          have HE := Lib.hid he
          clear he
          go_wp2_with fail
          go_round
          case rel => exact ⟨k + 1, by omega, by go_num, by rw [HT.out]; unfold hasB; refine decide_eq_false ?_; rw [List.mem_append, List.mem_singleton]; exact fun h => h.elim (of_decide_eq_false HV.out) (fun h => HE.out h.symm)⟩
          case measure => simp [intOf]; omega
      · have H := Lib.hid (show againB M a l code = true by
          have h := HV.out
          rw [List.take_of_length_le (by rw [HR1.out.2.1]; omega)] at h
          unfold againB; rw [h]; simpa using h1)
        clear hM4
        go_wp2_with (refine wpList_load_row rfl 24 _ rfl w.heap.size rfl 24 _ (0, 0) _ HX1.out Try.underlying24 rfl (by kernel_rfl) ?_)
        refine (refDrawn_ok f c n d M sn A L K wn draw w1 HM.out hwl hd).mono ?_
        rintro e w3 ⟨rfl, hb3⟩
        have HB3 := Lib.hid (HB1.out.trans (hb3.mono HB1.out.size))
        clear hb3
        go_wp2_with fail
        go_ret3
        exact ⟨by rw [nextV_yes _ H.out, H.out, ← HWN.out]; rfl, HB3.out⟩
  · have H := Lib.hid (show againB M a l code = false by unfold againB; rw [decide_eq_false h1]; rfl)
    have h1' : M ≤ (a : Int) := by omega
    clear h1
    go_wp2_with fail
    go_ret3
    exact ⟨by rw [nextV_no _ H.out, H.out]; rfl, HB1.out⟩
end Go.Proofs.Yticcicdbncmfbaa
