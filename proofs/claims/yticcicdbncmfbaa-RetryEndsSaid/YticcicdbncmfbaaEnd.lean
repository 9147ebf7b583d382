/- The walk of prompterlaw20.RetryEnds: it returns true. -/
import Derived.Test.YticcicdbncmfbaaNw
import Derived.Test.YticcicdbncmfbaaRis
import Derived.Test.YticcicdbncmfbaaTot
namespace Go.Proofs.Yticcicdbncmfbaa
open Go.RowKit

def drwN (dl : List Nat) (j : Nat) : Nat := if j ≤ dl.length then dl.getD (j - 1) 0 else 0
def eN (c n d f sn most : Nat) (dl : List Nat) (j : Nat) : Nat := if j < most then wseq c n d f (j - 1) - cutN sn (wseq c n d f (j - 1)) (drwN dl j) else 0
def accE (c n d f sn most : Nat) (dl : List Nat) : Nat → Nat
  | 0 => 0
  | k + 1 => accE c n d f sn most dl k + eN c n d f sn most dl (k + 1)
theorem eN_le (c n d f sn most : Nat) (dl : List Nat) (k : Nat) : eN c n d f sn most dl (k + 1) ≤ wseq c n d f k := by
  unfold eN
  split
  · rw [Nat.add_sub_cancel]; omega
  · omega
theorem accE_le (c n d f sn most : Nat) (dl : List Nat) : ∀ k, accE c n d f sn most dl k ≤ tsum c n d f k
  | 0 => Nat.le_refl _
  | k + 1 => Nat.add_le_add (accE_le c n d f sn most dl k) (eN_le c n d f sn most dl k)
theorem accE_end (c n d f sn most : Nat) (dl : List Nat) (h : 1 ≤ most) : satN (accE c n d f sn most dl most) ≤ satN (tsum c n d f (most - 1)) := by
  obtain ⟨k, rfl⟩ : ∃ k, most = k + 1 := ⟨most - 1, by omega⟩
  have h1 : accE c n d f sn (k + 1) dl (k + 1) = accE c n d f sn (k + 1) dl k := by
    show _ + eN c n d f sn (k + 1) dl (k + 1) = _
    unfold eN
    rw [if_neg (by omega)]; rfl
  rw [h1, Nat.add_sub_cancel]
  have := accE_le c n d f sn (k + 1) dl k
  unfold satN
  omega
theorem eN_lt (c n d f sn most : Nat) (dl : List Nat) (k : Nat) (hf : f ≤ c) (hc : c < 9223372036854775808) : eN c n d f sn most dl (k + 1) < 9223372036854775808 :=
  Nat.lt_of_le_of_lt (eN_le _ _ _ _ _ _ _ _) (Nat.lt_of_le_of_lt (wseq_le hf k) hc)

def dcells (l : List Nat) : List Value := l.map fun b => .int .u32 (b : Nat)
def DrRow (w : World) (A : Option Addr) (L : Nat) (dl : List Nat) : Prop := Reads w w.heap.size 1 A L (dcells dl) ∧ dl.length = L ∧ L ≤ 9223372036854775807 ∧ ∀ x ∈ dl, x < 4294967296
theorem DrRow.alloc {w : World} {A : Option Addr} {L : Nat} {l : List Nat} (h : DrRow w A L l) (o : Obj) : DrRow (w.alloc o) A L l :=
  ⟨(h.1.alloc (Nat.le_refl _) o).more (by simp), h.2⟩
theorem DrRow.below {w w' : World} {A : Option Addr} {L : Nat} {l : List Nat} (h : DrRow w A L l) (hb : Below w.heap.size w w') : DrRow w' A L l :=
  ⟨(h.1.below hb).more hb.size, h.2⟩
theorem DrRow.cell {w : World} {A : Option Addr} {L : Nat} {l : List Nat} (h : DrRow w A L l) {k : Nat} (hk : k < L) : ∃ b off x, A = some ⟨b, off, none⟩ ∧ w.cell? ⟨b, off + k, none⟩ = some (.int .u32 (x : Nat)) ∧ x < 4294967296 ∧ x = drwN l (k + 1) := by
  have hl := h.2.1
  obtain ⟨b, off, hA, _, hc⟩ := h.1.place (by omega)
  have hkl : k < l.length := by omega
  refine ⟨b, off, l[k], hA, hc k _ (by unfold dcells; rw [List.getElem?_map, List.getElem?_eq_getElem hkl]; rfl), h.2.2.2 _ (List.getElem_mem hkl), ?_⟩
  unfold drwN
  rw [if_pos (by omega), Nat.add_sub_cancel, List.getD_eq_getElem?_getD, List.getElem?_eq_getElem hkl]
  rfl

/-- A policy that may not be, or has more than 200 attempts. -/
theorem ends_not (F C N D M S : Int) (A : Option Addr) (L K : Nat) (l : List Int) (code : Int) (v : Value) (w : World) (hrow : InRow w A L K l) (hM : ¬ (May F C N D M S L ∧ M ≤ 200)) :
    Calls Try.prog 8 #[.agg #[.int .i64 F, .int .i64 C, .int .i64 N, .int .i64 D, .int .i64 M, .int .i64 S, .slice A L K], .int .i64 code, v] w fun e w' => e = .returned (.bool true) ∧ Below w.heap.size w w' := by
  have hL : L ≤ 9223372036854775807 := hrow.2.2.2.1
  have HR := Lib.hid hrow
  clear hrow
  go_enter Try.func8, Try.ntmps8
  go_wp2_with fail
  refine (awake_any _).mono ?_
  rintro e w1 ⟨rfl, hb1⟩
  have HP := Lib.hid ((Blk.new w 24 #[.int .i64 F, .int .i64 C, .int .i64 N, .int .i64 D, .int .i64 M, .int .i64 S, .slice A L K]).below hb1 (by simp))
  have HB := Lib.hid (show Below w.heap.size w w1 from ((Below.refl _ _).alloc (Nat.le_refl _) _).trans (hb1.mono (by simp)))
  have hs1 : w.heap.size < w1.heap.size := by have := hb1.size; simp at this; omega
  clear hb1
  have HR1 := Lib.hid (HR.out.below HB.out)
  go_wp2_with (refine wpList_load_row rfl 24 _ rfl w.heap.size rfl 24 _ (0, 0) _ HP.out Try.underlying24 rfl (by kernel_rfl) ?_)
  refine (policy_any F C N D M S A L K l _ HR1.out).mono ?_
  rintro e w2 ⟨A', K', rfl, hown, hb2⟩
  have HP2 := Lib.hid (HP.out.below hb2 hs1)
  have HB2 := Lib.hid (HB.out.trans (hb2.mono HB.out.size))
  have hs2 : w.heap.size < w2.heap.size := Nat.lt_of_lt_of_le hs1 hb2.size
  clear hown hb2
  go_wp2_with fail
  refine (check_any F C N D M S A' L K' _ hL).mono ?_
  rintro e w3 ⟨rfl, hb3⟩
  have HB3 := Lib.hid ((HB2.out.alloc HB2.out.size (.cells #[.int .i64 F, .int .i64 C, .int .i64 N, .int .i64 D, .int .i64 M, .int .i64 S, .slice A' L K'] 24)).trans (hb3.mono (Nat.le_trans HB2.out.size (by simp))))
  have HP3 := Lib.hid ((HP2.out.alloc (.cells #[.int .i64 F, .int .i64 C, .int .i64 N, .int .i64 D, .int .i64 M, .int .i64 S, .slice A' L K'] 24)).below hb3 (by simp; omega))
  clear hb3
  have p4 : w3.cell? ⟨w.heap.size, 4, none⟩ = some (.int .i64 M) := HP3.out.cell 4
  by_cases h1 : May F C N D M S L
  · rw [err_yes h1]
    have h2 : 200 < M := by
      rcases Int.lt_or_le 200 M with h | h
      · exact h
      · exact absurd ⟨h1, h⟩ hM
    clear hM h1
    go_wp2_with fail
    go_ret
    exact ⟨rfl, HB3.out⟩
  · rw [err_no h1]
    clear hM h1
    go_wp2_with fail
    go_ret
    exact ⟨rfl, HB3.out⟩

set_option maxHeartbeats 4000000 in
theorem ends_ok (f c n d most sn : Nat) (A : Option Addr) (L K : Nat) (l : List Int) (code : Int) (A2 : Option Addr) (L2 K2 : Nat) (dl : List Nat) (w : World) (hrow : InRow w A L K l) (hdr : DrRow w A2 L2 dl) (hM : May f c n d most sn L) (hm2 : most ≤ 200) (hc : c < 9223372036854775808) :
    Calls Try.prog 8 #[.agg #[.int .i64 (f : Nat), .int .i64 (c : Nat), .int .i64 (n : Nat), .int .i64 (d : Nat), .int .i64 (most : Nat), .int .i64 (sn : Nat), .slice A L K], .int .i64 code, .slice A2 L2 K2] w fun e w' => e = .returned (.bool true) ∧ Below w.heap.size w w' := by
  have hL : L ≤ 9223372036854775807 := hrow.2.2.2.1
  have hL2 : L2 ≤ 9223372036854775807 := hdr.2.2.1
  have hf : f ≤ c := by obtain ⟨_, h, _⟩ := hM; omega
  have hm1 : 1 ≤ most := by obtain ⟨_, _, _, _, _, h, _⟩ := hM; omega
  have HR := Lib.hid hrow
  have HM := Lib.hid hM
  have HDz := Lib.hid hdr
  clear hrow hM hdr
  go_enter Try.func8, Try.ntmps8
  go_wp2_with fail
  refine (awake_any _).mono ?_
  rintro e w1 ⟨rfl, hb1⟩
  have HP := Lib.hid ((Blk.new w 24 #[.int .i64 (f : Nat), .int .i64 (c : Nat), .int .i64 (n : Nat), .int .i64 (d : Nat), .int .i64 (most : Nat), .int .i64 (sn : Nat), .slice A L K]).below hb1 (by simp))
  have HB := Lib.hid (show Below w.heap.size w w1 from ((Below.refl _ _).alloc (Nat.le_refl _) _).trans (hb1.mono (by simp)))
  have hs1 : w.heap.size < w1.heap.size := by have := hb1.size; simp at this; omega
  clear hb1
  have HR1 := Lib.hid (HR.out.below HB.out)
  have HD1 := Lib.hid (HDz.out.below HB.out)
  clear HR HDz
  go_wp2_with (refine wpList_load_row rfl 24 _ rfl w.heap.size rfl 24 _ (0, 0) _ HP.out Try.underlying24 rfl (by kernel_rfl) ?_)
  refine (policy_any f c n d most sn A L K l _ HR1.out).mono ?_
  rintro e w2 ⟨A', K', rfl, hown, hb2⟩
  have HQz := Lib.hid ((InRow.own hown HR1.out.2.1 HR1.out.2.2.2.1 HR1.out.2.2.2.2).alloc (.cells #[.int .i64 (f : Nat), .int .i64 (c : Nat), .int .i64 (n : Nat), .int .i64 (d : Nat), .int .i64 (most : Nat), .int .i64 (sn : Nat), .slice A' L K'] 24))
  have HPz := Lib.hid ((HP.out.below hb2 hs1).alloc (.cells #[.int .i64 (f : Nat), .int .i64 (c : Nat), .int .i64 (n : Nat), .int .i64 (d : Nat), .int .i64 (most : Nat), .int .i64 (sn : Nat), .slice A' L K'] 24))
  have HBz := Lib.hid ((HB.out.trans (hb2.mono HB.out.size)).alloc (Nat.le_trans HB.out.size hb2.size) (.cells #[.int .i64 (f : Nat), .int .i64 (c : Nat), .int .i64 (n : Nat), .int .i64 (d : Nat), .int .i64 (most : Nat), .int .i64 (sn : Nat), .slice A' L K'] 24))
  have HRz := Lib.hid ((HR1.out.below hb2).alloc (.cells #[.int .i64 (f : Nat), .int .i64 (c : Nat), .int .i64 (n : Nat), .int .i64 (d : Nat), .int .i64 (most : Nat), .int .i64 (sn : Nat), .slice A' L K'] 24))
  have HDz := Lib.hid ((HD1.out.below hb2).alloc (.cells #[.int .i64 (f : Nat), .int .i64 (c : Nat), .int .i64 (n : Nat), .int .i64 (d : Nat), .int .i64 (most : Nat), .int .i64 (sn : Nat), .slice A' L K'] 24))
  have hs : w.heap.size < w2.heap.size := Nat.lt_of_lt_of_le hs1 hb2.size
  clear hown hb2 HP HB HR1 HD1
  obtain ⟨b9, hb9⟩ : ∃ b, b = w2.heap.size := ⟨_, rfl⟩
  have HXz := Lib.hid (Blk.new w2 24 #[.int .i64 (f : Nat), .int .i64 (c : Nat), .int .i64 (n : Nat), .int .i64 (d : Nat), .int .i64 (most : Nat), .int .i64 (sn : Nat), .slice A' L K'])
  have hsz : (w2.alloc (.cells #[.int .i64 (f : Nat), .int .i64 (c : Nat), .int .i64 (n : Nat), .int .i64 (d : Nat), .int .i64 (most : Nat), .int .i64 (sn : Nat), .slice A' L K'] 24)).heap.size = b9 + 1 := by simp [hb9]
  rw [← hb9] at HXz hs
  go_wp2_with fail
  rw [← hb9]
  obtain ⟨w3, hw3⟩ : ∃ w3, w3 = w2.alloc (.cells #[.int .i64 (f : Nat), .int .i64 (c : Nat), .int .i64 (n : Nat), .int .i64 (d : Nat), .int .i64 (most : Nat), .int .i64 (sn : Nat), .slice A' L K'] 24) := ⟨_, rfl⟩
  rw [← hw3] at HPz HBz HXz HQz HRz HDz hsz ⊢
  have HX := Lib.hid HXz.out
  have HP := Lib.hid HPz.out
  have HB := Lib.hid HBz.out
  have HQ := Lib.hid HQz.out
  have HRR := Lib.hid HRz.out
  have HD := Lib.hid HDz.out
  have s9 : b9 < w3.heap.size := by omega
  have s0 : w.heap.size < w3.heap.size := by omega
  clear hw3 hb9 HPz HBz HXz HQz HRz HDz hsz hs hs1
  refine (check_any f c n d most sn A' L K' w3 hL).mono ?_
  rintro e w4 ⟨rfl, hb⟩
  rw [err_yes HM.out]
  have HX := Lib.hid (HX.out.below hb s9); have HP := Lib.hid (HP.out.below hb s0); have HQ := Lib.hid (HQ.out.below hb); have HRR := Lib.hid (HRR.out.below hb); have HD := Lib.hid (HD.out.below hb); have HB := Lib.hid (HB.out.trans (hb.mono HB.out.size)); have s9 := Nat.lt_of_lt_of_le s9 hb.size; have s0 := Nat.lt_of_lt_of_le s0 hb.size; clear hb
  have p4 : w4.cell? ⟨w.heap.size, 4, none⟩ = some (.int .i64 most) := HP.out.cell 4
  have p6 : w4.cell? ⟨w.heap.size, 6, none⟩ = some (.slice A L K) := HP.out.cell 6
  go_wp2_with fail
  go_loop [8, 9] (fun b i => ∃ k : Nat, k ≤ L ∧ i = .int .i64 k ∧ b = .bool (hasB (l.take k) code)) (fun _ i => L - (intOf i).toNat)
  case atStart => exact ⟨0, Nat.zero_le _, rfl, by rw [show hasB (l.take 0) code = false from decide_eq_false (by simp)]⟩
  case round =>
    obtain ⟨k, hk, rfl, rfl⟩ := hrel
    by_cases hlt : k < L
    · have hll := HRR.out.2.1
      have hkl : k < l.length := by omega
      obtain ⟨b1, o1, hA1, hc1⟩ := HRR.out.cell hlt hkl
      subst hA1
      have HT : Hid (hasB (l.take (k + 1)) code = (hasB (l.take k) code || (l[k] == code))) := by
        unfold hasB
        rw [List.take_succ_eq_append_getElem hkl, Bool.eq_iff_iff]
        simp only [List.mem_append, List.mem_singleton, decide_eq_true_eq, Bool.or_eq_true, beq_iff_eq]
        constructor
        · rintro (h | h)
          · exact .inl h
          · exact .inr h.symm
        · rintro (h | h)
          · exact .inl h
          · exact .inr h.symm
      clear hll
      obtain ⟨y, hy⟩ : ∃ y, y = l[k] := ⟨_, rfl⟩
      rw [← hy] at hc1 HT
      clear hy
      obtain ⟨q, hq⟩ : ∃ q, q = hasB (l.take k) code := ⟨_, rfl⟩
      rw [← hq] at HT ⊢
      clear hq
      cases q
      · go_wp2_with fail
        go_round
        case rel => exact ⟨k + 1, by omega, by go_num, by rw [HT.out]; rfl⟩
        case measure => simp [intOf]; omega
      · go_wp2_with fail
        go_round
        case rel => exact ⟨k + 1, by omega, by go_num, by rw [HT.out]; rfl⟩
        case measure => simp [intOf]; omega
    · have hkl : k = L := by omega
      subst hkl
      have HE : Hid (l.take k = l) := List.take_of_length_le (by rw [HRR.out.2.1]; exact Nat.le_refl _)
      rw [HE.out]
      obtain ⟨fb, hfb⟩ : ∃ fb, fb = hasB l code := ⟨_, rfl⟩
      rw [← hfb]
      have HFB := Lib.hid hfb
      clear hfb
      go_wp2_with (refine wpList_load_row rfl 24 _ rfl b9 rfl 24 _ (0, 0) _ HX.out Try.underlying24 rfl (by kernel_rfl) ?_)
      clear p4 p6
      refine (total_ok f c n d most sn A' k K' w4 HM.out hc).mono ?_
      rintro e w5 ⟨rfl, hb⟩
      have HX := Lib.hid (HX.out.below hb s9); have HP := Lib.hid (HP.out.below hb s0); have HQ := Lib.hid (HQ.out.below hb); have HRR := Lib.hid (HRR.out.below hb); have HD := Lib.hid (HD.out.below hb); have HB := Lib.hid (HB.out.trans (hb.mono HB.out.size)); have s9 := Nat.lt_of_lt_of_le s9 hb.size; have s0 := Nat.lt_of_lt_of_le s0 hb.size; clear hb
      have HTS := Lib.hid (accE_end c n d f sn most dl hm1)
      obtain ⟨tt, htt⟩ : ∃ t, t = satN (tsum c n d f (most - 1)) := ⟨_, rfl⟩
      rw [← htt] at HTS ⊢
      clear htt
      cases fb
      · go_wp2_with fail
        go_loopw [12, 13] (fun s i wr => ∃ k : Nat, k ≤ most ∧ i = .int .i64 ((k : Int) + 1) ∧ s = .int .i64 (satN (accE c n d f sn most dl k) : Nat) ∧ Below w5.heap.size w5 wr) (fun _ i _ => most + 1 - (intOf i).toNat)
        case atStart => exact ⟨0, by omega, rfl, rfl, Below.refl _ _⟩
        case round =>
          obtain ⟨j, hj, rfl, rfl, hb⟩ := hrel
          have HB5 := Lib.hid hb
          have HX := Lib.hid (HX.out.below hb s9); have HP := Lib.hid (HP.out.below hb s0); have HQ := Lib.hid (HQ.out.below hb); have HRR := Lib.hid (HRR.out.below hb); have HD := Lib.hid (HD.out.below hb); have HB := Lib.hid (HB.out.trans (hb.mono HB.out.size)); have s9 := Nat.lt_of_lt_of_le s9 hb.size; have s0 := Nat.lt_of_lt_of_le s0 hb.size; clear hb
          have p4 : wr.cell? ⟨w.heap.size, 4, none⟩ = some (.int .i64 most) := HP.out.cell 4
          have hal := satN_lt (accE c n d f sn most dl j)
          have HA := Lib.hid (show satN (accE c n d f sn most dl (j + 1)) = satN (satN (accE c n d f sn most dl j) + eN c n d f sn most dl (j + 1)) by rw [satN_add]; rfl)
          have hel := eN_lt c n d f sn most dl j hf hc
          by_cases hjm : j < most
          · have hx : ∃ x, x < 4294967296 ∧ x = drwN dl (j + 1) ∧ ((L2 ≤ j ∧ x = 0) ∨ (j < L2 ∧ ∃ b o, A2 = some ⟨b, o, none⟩ ∧ wr.cell? ⟨b, o + j, none⟩ = some (.int .u32 (x : Nat)))) := by
              by_cases h : j < L2
              · obtain ⟨b, o, x, h1, h2, h3, h4⟩ := HD.out.cell h
                exact ⟨x, h3, h4, .inr ⟨h, b, o, h1, h2⟩⟩
              · have := HD.out.2.1
                exact ⟨0, by omega, by unfold drwN; rw [if_neg (by omega)], .inl ⟨by omega, rfl⟩⟩
            obtain ⟨x, hx1, hx2, hx3⟩ := hx
            have HN : Hid (∀ W, InRow W A' k K' l → Calls Try.prog 19 #[.agg #[.int .i64 (f : Nat), .int .i64 (c : Nat), .int .i64 (n : Nat), .int .i64 (d : Nat), .int .i64 (most : Nat), .int .i64 (sn : Nat), .slice A' k K'], .int .i64 ((j : Int) + 1), .int .i64 code, .int .u32 (x : Nat)] W fun e w' => e = .returned (.tuple #[.int .i64 (eN c n d f sn most dl (j + 1) : Nat), .bool (decide (j + 1 < most)), .int .i64 0]) ∧ Below W.heap.size W w') := fun W hW => by
              have h := next_ok f c n d sn most A' k K' l (j + 1) code x W hW HM.out hc (by omega) (by omega) hx1
              rw [Nat.add_sub_cancel] at h
              have hg : againB (most : Int) (j + 1) l code = decide (j + 1 < most) := by
                unfold againB; rw [← HFB.out, Bool.not_false, Bool.and_true, Bool.eq_iff_iff, decide_eq_true_eq, decide_eq_true_eq]; omega
              have hv : nextV (most : Int) (j + 1) l code (drawnV sn (wseq c n d f j : Nat) x) = (eN c n d f sn most dl (j + 1) : Nat) := by
                unfold nextV eN
                rw [hg]
                by_cases hlt : j + 1 < most
                · rw [if_pos (by simpa using hlt), if_pos hlt, drawnV_cut, Nat.add_sub_cancel, ← hx2]
                  have h1 := cutN_le sn (wseq c n d f j) x hx1
                  have h2 : wseq c n d f j * sn / 100 ≤ wseq c n d f j := Nat.div_le_of_le_mul (by rw [Nat.mul_comm 100]; exact Nat.mul_le_mul_left _ (by obtain ⟨_, _, _, _, _, _, _, _, h, _⟩ := HM.out; omega))
                  omega
                · rw [if_neg (by simpa using hlt), if_neg hlt]; rfl
              rw [hg, hv] at h
              exact h
            have HX2 := Lib.hid hx2
            have HE0 : Hid (¬ j + 1 < most → eN c n d f sn most dl (j + 1) = 0) := fun h => by unfold eN; rw [if_neg h]
            clear hx2
            obtain ⟨ee, hee⟩ : ∃ e, e = eN c n d f sn most dl (j + 1) := ⟨_, rfl⟩
            rw [← hee] at HA HN hel HE0
            clear hee
            rcases hx3 with ⟨hx4, rfl⟩ | ⟨hx4, b, o, rfl, hcx⟩
            all_goals
              by_cases hlast : j + 1 < most
              · have hdl : decide (j + 1 < most) = true := decide_eq_true hlast
                rw [hdl] at HN
                clear hdl
                go_wp2_with (refine wpList_load_row rfl 24 _ rfl b9 rfl 24 _ (0, 0) _ HX.out Try.underlying24 rfl (by kernel_rfl) ?_)
                refine (HN.out wr HQ.out).mono ?_
                rintro e w6 ⟨rfl, hb⟩
                have p4 : w6.cell? ⟨w.heap.size, 4, none⟩ = some (.int .i64 most) := (HP.out.below hb s0).cell 4
                have HB6 := Lib.hid (HB5.out.trans (hb.mono HB5.out.size))
                clear hb
                go_wp2_with fail
                refine (add_any _ ee hal hel w6).mono ?_
                rintro e w7 ⟨rfl, rfl⟩
                go_wp2_with fail
                go_roundw
                case rel => exact ⟨j + 1, by omega, by go_num, by rw [HA.out], HB6.out⟩
                case measure => simp [intOf]; omega
              · have hdl : decide (j + 1 < most) = false := decide_eq_false hlast
                have he0 := HE0.out hlast
                subst he0
                rw [hdl] at HN
                clear hdl
                go_wp2_with (refine wpList_load_row rfl 24 _ rfl b9 rfl 24 _ (0, 0) _ HX.out Try.underlying24 rfl (by kernel_rfl) ?_)
                refine (HN.out wr HQ.out).mono ?_
                rintro e w6 ⟨rfl, hb⟩
                have p4 : w6.cell? ⟨w.heap.size, 4, none⟩ = some (.int .i64 most) := (HP.out.below hb s0).cell 4
                have HB6 := Lib.hid (HB5.out.trans (hb.mono HB5.out.size))
                clear hb
                go_wp2_with fail
                refine (add_any _ 0 hal hel w6).mono ?_
                rintro e w7 ⟨rfl, rfl⟩
                go_wp2_with fail
                go_roundw
                case rel => exact ⟨j + 1, by omega, by go_num, by rw [HA.out, Nat.add_zero], HB6.out⟩
                case measure => simp [intOf]; omega
          · have hje : j = most := by omega
            have hfin : satN (accE c n d f sn most dl j) ≤ tt := by rw [hje]; exact HTS.out
            generalize satN (accE c n d f sn most dl j) = aa at hfin
            have hle : decide ((aa : Int) ≤ (tt : Int)) = true := by simpa using hfin
            clear hje HA
            go_wp2_with fail
            go_ret
            exact ⟨rfl, HB.out⟩
      · go_wp2_with fail
        go_loopw [12, 13] (fun s i wr => i = .int .i64 1 ∧ s = .int .i64 0 ∧ Below w5.heap.size w5 wr) (fun _ _ _ => 0)
        case atStart => exact ⟨rfl, rfl, Below.refl _ _⟩
        case round =>
          obtain ⟨rfl, rfl, hb⟩ := hrel
          have HX := Lib.hid (HX.out.below hb s9); have HP := Lib.hid (HP.out.below hb s0); have HQ := Lib.hid (HQ.out.below hb); have HRR := Lib.hid (HRR.out.below hb); have HD := Lib.hid (HD.out.below hb); have HB := Lib.hid (HB.out.trans (hb.mono HB.out.size)); have s9 := Nat.lt_of_lt_of_le s9 hb.size; have s0 := Nat.lt_of_lt_of_le s0 hb.size; clear hb
          have p4 : wr.cell? ⟨w.heap.size, 4, none⟩ = some (.int .i64 most) := HP.out.cell 4
          have hx : ∃ x, x < 4294967296 ∧ ((L2 = 0 ∧ x = 0) ∨ (0 < L2 ∧ ∃ b o, A2 = some ⟨b, o, none⟩ ∧ wr.cell? ⟨b, o, none⟩ = some (.int .u32 (x : Nat)))) := by
            by_cases h : 0 < L2
            · obtain ⟨b, o, x, h1, h2, h3, h4⟩ := HD.out.cell h
              exact ⟨x, h3, .inr ⟨h, b, o, h1, h2⟩⟩
            · exact ⟨0, by omega, .inl ⟨by omega, rfl⟩⟩
          obtain ⟨x, hx1, hx3⟩ := hx
          have HN : Hid (∀ W, InRow W A' k K' l → Calls Try.prog 19 #[.agg #[.int .i64 (f : Nat), .int .i64 (c : Nat), .int .i64 (n : Nat), .int .i64 (d : Nat), .int .i64 (most : Nat), .int .i64 (sn : Nat), .slice A' k K'], .int .i64 1, .int .i64 code, .int .u32 (x : Nat)] W fun e w' => e = .returned (.tuple #[.int .i64 0, .bool false, .int .i64 0]) ∧ Below W.heap.size W w') := fun W hW => by
            have h := next_ok f c n d sn most A' k K' l 1 code x W hW HM.out hc (by omega) (by omega) hx1
            have hg : againB (most : Int) 1 l code = false := by
              unfold againB; rw [← HFB.out, Bool.not_true, Bool.and_false]
            rw [hg, nextV_no _ hg] at h
            exact h
          rcases hx3 with ⟨rfl, rfl⟩ | ⟨hx4, b, o, rfl, hcx⟩ <;> rcases Int.lt_or_le 1 most with h1m | h1m
          all_goals
            go_wp2_with (refine wpList_load_row rfl 24 _ rfl b9 rfl 24 _ (0, 0) _ HX.out Try.underlying24 rfl (by kernel_rfl) ?_)
            refine (HN.out wr HQ.out).mono ?_
            rintro e w6 ⟨rfl, hb⟩
            have p4 : w6.cell? ⟨w.heap.size, 4, none⟩ = some (.int .i64 most) := (HP.out.below hb s0).cell 4
            have HB6 := Lib.hid (HB.out.trans (hb.mono HB.out.size))
            clear hb
            go_wp2_with fail
            go_ret
            exact ⟨rfl, HB6.out⟩
end Go.Proofs.Yticcicdbncmfbaa
